/- A script is played: what area it leaves. -/
import Derived.Test.YtbfnmfakagdpfaaRuns
namespace Go.Proofs.Ytbfnmfakagdpfaa
open Go.RowKit
set_option linter.unusedVariables false
set_option linter.unusedSimpArgs false
/-- What played returns. -/
def PlayedRet (T : Nat) (w : World) (e : Ending) (w' : World) : Prop :=
  ∃ g A c base bs s, e = .returned (.pointer (some ⟨g, 0, none⟩)) ∧ Ar w' g A c base bs s ∧ (∀ q, arF g A q → w.heap.size ≤ q ∧ q < w'.heap.size) ∧ bs.length ≤ T ∧ base + bs.length ≤ 4611686018427387904 + (T : Int) ∧ Below w.heap.size w w'
theorem Sit.played {w w' : World} {P T : Nat} {F : Nat → Prop} (h : Sit w.heap.size w' P F T) (hb : Below w.heap.size w w') :
    ∃ g, w'.cell? ⟨P, 0, none⟩ = some (.pointer (some ⟨g, 0, none⟩)) ∧ PlayedRet T w (.returned (.pointer (some ⟨g, 0, none⟩))) w' := by
  obtain ⟨⟨base, bs, s, g, A, c, DA, dc, SA, sc, hp, rfl, h1, h2⟩, h3⟩ := h
  exact ⟨g, hp.pb.cell 0, g, A, c, base, bs, s, rfl, hp.ar, fun q e => ⟨h3 q (.inr (.inl e)), hp.lt q (.inr (.inl e))⟩, h1, h2, hb⟩
set_option maxHeartbeats 3200000 in
theorem played_any (A : Option Addr) (n c : Nat) (xs : List StepR) (w : World) (h : RecS IsStep w 4 A n xs) (hn : n ≤ 140737488351232) (hv : wrN xs n ≤ 1073741824) :
    Calls Try.prog 23 #[.slice A n c] w (PlayedRet (wrN xs n) w) := by
  have HLn := Lib.hid h.1
  have HV := Lib.hid hv
  clear hv
  go_enter Try.func23, Try.ntmps23
  go_wp2_with fail
  refine (areaNew_any _).mono ?_
  rintro e w2 ⟨rfl, hw2⟩
  have q1 := pair_new w
  rw [← hw2] at q1
  have hb2 : Below w.heap.size w w2 := by rw [hw2]; exact below_alloc _ _
  have hz2 : w2.heap.size = w.heap.size + 1 := by rw [hw2]; simp
  clear hw2
  have hb3 := below_alloc w2 (.cells #[.pointer (some ⟨w.heap.size, 0, none⟩), .int .i64 0, .slice none 0 0, .slice none 0 0] 48)
  have hB := below_then hb2 hb3 hb2.size
  have S0 := sit_new (B := w.heap.size) q1 (by omega) (by omega)
  go_upto_region 2 with fail
  generalize w2.alloc (.cells #[.pointer (some ⟨w.heap.size, 0, none⟩), .int .i64 0, .slice none 0 0, .slice none 0 0] 48) = w3 at *
  generalize pF (w.heap.size + 1) w.heap.size none none none = F at S0
  generalize w.heap.size + 1 = P at *
  clear hb2 hb3 q1 hz2
  go_wp2_with fail
  go_loopw [4] (fun i wr => ∃ k F, k ≤ n ∧ i = .int .i64 (k : Nat) ∧ Sit w.heap.size wr P F (wrN xs k) ∧ Below w.heap.size w wr) (fun i _ => n - (intOf i).toNat)
  case atStart => exact ⟨0, F, by omega, rfl, S0, hB⟩
  case round =>
    clear S0 hB
    obtain ⟨k, F, hk, rfl, hS, hB⟩ := hrel
    obtain ⟨g, c0, hP⟩ := hS.played hB
    by_cases hlt : k < n
    · obtain ⟨b, o, cs, x, rfl, hx, _, ⟨A', l, c2, rfl, hlc, hcc, hb, k0, k1, w0, w1', v0, v1⟩, hcell⟩ := h.at_ k hlt
      have hx1 := wrN_succ xs k x hx
      have hmo := wrN_mono xs (k + 1) n hlt (by rw [HLn.out]; exact Nat.le_refl _)
      have hle := hb.1
      have hvv := HV.out
      have hT1 : wrN xs k + l ≤ 140737488355328 := by omega
      have hnx : wrN xs k + l ≤ wrN xs (k + 1) := by omega
      have hdn : l ≠ 0 → ∀ q, blkO A' = some q → q < w.heap.size := fun h0 => hb.lt h0
      clear hx1 hmo hle hvv hx hP
      have r0 := (hB.cell (p := ⟨b, o + k * 4 + 0, none⟩) (block_lt_of_cell (hcell 0 _ rfl))).trans (hcell 0 _ rfl)
      have r1 := (hB.cell (p := ⟨b, o + k * 4 + 1, none⟩) (block_lt_of_cell (hcell 1 _ rfl))).trans (hcell 1 _ rfl)
      have r2 := (hB.cell (p := ⟨b, o + k * 4 + 2, none⟩) (block_lt_of_cell (hcell 2 _ rfl))).trans (hcell 2 _ rfl)
      have r3 := (hB.cell (p := ⟨b, o + k * 4 + 3, none⟩) (block_lt_of_cell (hcell 3 _ rfl))).trans (hcell 3 _ rfl)
      rw [Nat.add_zero] at r0
      have hbr := hb.below hB
      go_wp2_with fail
      refine (step_sit hS hB.size x.kind x.a x.b w0 w1' v0 v1 A' l c2 x.d hbr hdn hT1).mono ?_
      rintro e wa ⟨rfl, F', hS', hC', hF', hBa⟩
      have hB2 := hB.trans hBa
      have hS2 := hS'.mono hnx
      clear r0 r1 r2 r3 hcell c0 hS hB hS' hC' hF' hBa
      go_wp2
      go_roundw
      case rel => exact ⟨k + 1, F', by omega, by go_num, hS2, hB2⟩
      case measure => simp [intOf]; omega
    · obtain rfl : k = n := by omega
      go_wp2_with fail
      go_ret
      exact hP
end Go.Proofs.Ytbfnmfakagdpfaa
