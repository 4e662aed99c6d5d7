/- A script is played: just what area it leaves. -/
import Derived.Test.YtbfnmfakagdpfaaPlayed
namespace Go.Proofs.Ytbfnmfakagdpfaa
open Go.RowKit
set_option linter.unusedVariables false
set_option linter.unusedSimpArgs false
/-- What the first k steps make. -/
def stateF (xs : List StepR) : Nat → Int × List UInt8 × Nat
  | 0 => (0, [], 0)
  | k + 1 => match xs[k]? with
    | some x => stepF x.kind x.a x.b x.d (stateF xs k).1 (stateF xs k).2.1 (stateF xs k).2.2
    | none => stateF xs k
theorem stateF_succ {xs : List StepR} {k : Nat} {x : StepR} (h : xs[k]? = some x) : stateF xs (k + 1) = stepF x.kind x.a x.b x.d (stateF xs k).1 (stateF xs k).2.1 (stateF xs k).2.2 := by simp [stateF, h]
/-- A pair from block B on, what its area is. -/
def SitS (B : Nat) (w : World) (P : Nat) (F : Nat → Prop) (T : Nat) (r : Int × List UInt8 × Nat) : Prop := Pr w P F T r.1 r.2.1 r.2.2 ∧ ∀ q, F q → B ≤ q
theorem SitS.sit {B : Nat} {w : World} {P T : Nat} {F : Nat → Prop} {r : Int × List UInt8 × Nat} (h : SitS B w P F T r) : Sit B w P F T := ⟨⟨_, _, _, h.1⟩, h.2⟩
theorem SitS.mono {B : Nat} {w : World} {P T T' : Nat} {F : Nat → Prop} {r : Int × List UInt8 × Nat} (h : SitS B w P F T r) (hT : T ≤ T') : SitS B w P F T' r := by
  obtain ⟨⟨g, A, c', DA, dc, SA, sc, h, rfl, h1, h2⟩, h3⟩ := h
  exact ⟨⟨g, A, c', DA, dc, SA, sc, h, rfl, by omega, by omega⟩, h3⟩
theorem sitS_new {B : Nat} {w : World} {P g : Nat} (h : PairAt w P g none 0 none 0 none 0 0 [] 0) (hP : B ≤ P) (hg : B ≤ g) : SitS B w P (pF P g none none none) 0 (0, [], 0) := by
  refine ⟨⟨g, none, 0, none, 0, none, 0, h, rfl, by simp, by simp⟩, fun q e => ?_⟩
  rcases e with e | (e | e) | e | e
  · omega
  · omega
  · cases e
  · cases e
  · cases e
def SitSTo (B : Nat) (w : World) (P : Nat) (F : Nat → Prop) (T : Nat) (r : Int × List UInt8 × Nat) (e : Ending) (w' : World) : Prop :=
  e = .returned (.bool true) ∧ ∃ F', SitS B w' P F' T r ∧ Below B w w'
theorem step_sitS {B : Nat} {w : World} {P T : Nat} {F : Nat → Prop} {r : Int × List UInt8 × Nat} (h : SitS B w P F T r) (hB : B ≤ w.heap.size)
    (k a b : Int) (ha1 : -9223372036854775808 ≤ a) (ha2 : a ≤ 9223372036854775807) (hb1 : -9223372036854775808 ≤ b) (hb2 : b ≤ 9223372036854775807) (D : Option Addr) (m mc : Nat) (d : List UInt8) (hd : Bytes w D m d) (hdn : m ≠ 0 → ∀ q, blkO D = some q → q < B) (hT : T + m ≤ 140737488355328) :
    Calls Try.prog 21 #[.pointer (some ⟨P, 0, none⟩), .agg #[.int .i64 k, .int .i64 a, .int .i64 b, .slice D m mc]] w (SitSTo B w P F (T + m) (stepF k a b d r.1 r.2.1 r.2.2)) := by
  obtain ⟨hp, h2⟩ := h
  refine (step_pr hp k a b ha1 ha2 hb1 hb2 D m mc d hd (fun h0 q e e2 => by have := hdn h0 q e; have := h2 q e2; omega) hT).mono ?_
  rintro e w' ⟨he, F', g1, g2, g3⟩
  exact ⟨he, F', ⟨g1, fun q e => (g3 q e).elim (h2 q) (fun e => Nat.le_trans hB e)⟩, g2.below hB h2⟩
/-- What played returns. -/
def PlayedAt (r : Int × List UInt8 × Nat) (T : Nat) (w : World) (e : Ending) (w' : World) : Prop :=
  ∃ g A c, e = .returned (.pointer (some ⟨g, 0, none⟩)) ∧ Ar w' g A c r.1 r.2.1 r.2.2 ∧ (∀ q, arF g A q → w.heap.size ≤ q ∧ q < w'.heap.size) ∧ r.2.1.length ≤ T ∧ r.1 + r.2.1.length ≤ 4611686018427387904 + (T : Int) ∧ Below w.heap.size w w'
theorem SitS.played {w w' : World} {P T : Nat} {F : Nat → Prop} {r : Int × List UInt8 × Nat} (h : SitS w.heap.size w' P F T r) (hb : Below w.heap.size w w') :
    ∃ g, w'.cell? ⟨P, 0, none⟩ = some (.pointer (some ⟨g, 0, none⟩)) ∧ PlayedAt r T w (.returned (.pointer (some ⟨g, 0, none⟩))) w' := by
  obtain ⟨⟨g, A, c, DA, dc, SA, sc, hp, rfl, h1, h2⟩, h3⟩ := h
  exact ⟨g, hp.pb.cell 0, g, A, c, rfl, hp.ar, fun q e => ⟨h3 q (.inr (.inl e)), hp.lt q (.inr (.inl e))⟩, h1, h2, hb⟩
set_option maxHeartbeats 3200000 in
theorem played_at (A : Option Addr) (n c : Nat) (xs : List StepR) (w : World) (h : RecS IsStep w 4 A n xs) (hn : n ≤ 140737488351232) (hv : wrN xs n ≤ 1073741824) :
    Calls Try.prog 23 #[.slice A n c] w (PlayedAt (stateF xs n) (wrN xs n) w) := by
  have HLn := Lib.hid h.1
  have HV := Lib.hid hv
  clear hv
  go_enter Try.func23, Try.ntmps23
  go_wp2_with fail
  refine (areaNew_any _).mono ?_
  rintro e w2 ⟨rfl, hw2⟩
  have q1 := pair_new w
  rw [← hw2] at q1
  have hb2 : Below w.heap.size w w2 := by rw [hw2]; exact below_alloc _ _
  have hz2 : w2.heap.size = w.heap.size + 1 := by rw [hw2]; simp
  clear hw2
  have hb3 := below_alloc w2 (.cells #[.pointer (some ⟨w.heap.size, 0, none⟩), .int .i64 0, .slice none 0 0, .slice none 0 0] 48)
  have hB := below_then hb2 hb3 hb2.size
  have S0 := sitS_new (B := w.heap.size) q1 (by omega) (by omega)
  go_upto_region 2 with fail
  generalize w2.alloc (.cells #[.pointer (some ⟨w.heap.size, 0, none⟩), .int .i64 0, .slice none 0 0, .slice none 0 0] 48) = w3 at *
  generalize pF (w.heap.size + 1) w.heap.size none none none = F at S0
  generalize w.heap.size + 1 = P at *
  clear hb2 hb3 q1 hz2
  go_wp2_with fail
  go_loopw [4] (fun i wr => ∃ k F, k ≤ n ∧ i = .int .i64 (k : Nat) ∧ SitS w.heap.size wr P F (wrN xs k) (stateF xs k) ∧ Below w.heap.size w wr) (fun i _ => n - (intOf i).toNat)
  case atStart => exact ⟨0, F, by omega, rfl, S0, hB⟩
  case round =>
    clear S0 hB
    obtain ⟨k, F, hk, rfl, hS, hB⟩ := hrel
    obtain ⟨g, c0, hP⟩ := hS.played hB
    by_cases hlt : k < n
    · obtain ⟨b, o, cs, x, rfl, hx, _, ⟨A', l, c2, rfl, hlc, hcc, hb, k0, k1, w0, w1', v0, v1⟩, hcell⟩ := h.at_ k hlt
      have hx1 := wrN_succ xs k x hx
      have hmo := wrN_mono xs (k + 1) n hlt (by rw [HLn.out]; exact Nat.le_refl _)
      have hle := hb.1
      have hvv := HV.out
      have hT1 : wrN xs k + l ≤ 140737488355328 := by omega
      have hnx : wrN xs k + l ≤ wrN xs (k + 1) := by omega
      have hdn : l ≠ 0 → ∀ q, blkO A' = some q → q < w.heap.size := fun h0 => hb.lt h0
      have HST := Lib.hid (stateF_succ hx)
      clear hx1 hmo hle hvv hx hP
      have r0 := (hB.cell (p := ⟨b, o + k * 4 + 0, none⟩) (block_lt_of_cell (hcell 0 _ rfl))).trans (hcell 0 _ rfl)
      have r1 := (hB.cell (p := ⟨b, o + k * 4 + 1, none⟩) (block_lt_of_cell (hcell 1 _ rfl))).trans (hcell 1 _ rfl)
      have r2 := (hB.cell (p := ⟨b, o + k * 4 + 2, none⟩) (block_lt_of_cell (hcell 2 _ rfl))).trans (hcell 2 _ rfl)
      have r3 := (hB.cell (p := ⟨b, o + k * 4 + 3, none⟩) (block_lt_of_cell (hcell 3 _ rfl))).trans (hcell 3 _ rfl)
      rw [Nat.add_zero] at r0
      have hbr := hb.below hB
      go_wp2_with fail
      refine (step_sitS hS hB.size x.kind x.a x.b w0 w1' v0 v1 A' l c2 x.d hbr hdn hT1).mono ?_
      rintro e wa ⟨rfl, F', hS', hBa⟩
      have hB2 := hB.trans hBa
      have hS2 := hS'.mono hnx
      rw [← HST.out] at hS2
      clear r0 r1 r2 r3 hcell c0 hS hB hS' hBa
      go_wp2
      go_roundw
      case rel => exact ⟨k + 1, F', by omega, by go_num, hS2, hB2⟩
      case measure => simp [intOf]; omega
    · obtain rfl : k = n := by omega
      go_wp2_with fail
      go_ret
      exact hP
end Go.Proofs.Ytbfnmfakagdpfaa
