/- Package area, walked: Trim. -/
import Derived.Test.YtodaplkijdjbpaaProg
import Derived.Test.YtodaplkijdjbpaaArea
namespace Go.Proofs.Ytodaplkijdjbpaa
open Go.RowKit
set_option linter.unusedVariables false
set_option linter.unusedSimpArgs false
/-- An area whose bytes were laid anew. -/
theorem trim_end {w w2 : World} {g : Nat} {A A' : Option Addr} {c c' : Nat} {base : Int} {bs : List UInt8} {s k : Nat} (h : Ar w g A c base bs s) (hk : k ≤ s) {cs : Array Value} (hC : Chg (arF g A) w w2) (hB : Blk w2 g cs 116)
    (hcs : cs = #[.int .i64 (base + k), .slice A' (bs.length - k) c', .int .i64 ((s - k : Nat) : Int)])
    (hO : w2.ownsRow 0 5 1 (.slice A' (bs.length - k) c') (bs.length - k) (bvals (bs.drop k))) (hA : ∀ q, blkO A' = some q → w.heap.size ≤ q) :
    ArTo w (arF g A) g (base + k) (bs.drop k) (s - k) 0 (.returned (.int .i64 0)) w2 := by
  subst hcs
  have hl : (bs.drop k).length = bs.length - k := List.length_drop
  have := h.sle
  have := h.b0
  have := h.b1
  have := h.n1
  exact ⟨rfl, A', c', ⟨by rw [hl]; exact hB, by rw [hl]; exact hO, by rw [hl]; omega, by omega, by rw [hl]; omega, by rw [hl]; omega⟩, hC, fun q e => .inr (hA q e)⟩
theorem trim_fin {w w2 w3 : World} {g : Nat} {A A' : Option Addr} {c c' n' : Nat} {base x : Int} {bs cs : List UInt8} {s k : Nat} (hn' : n' = bs.length - k) (hx : x = base + k) (hcs : cs = bs.drop k) (h : Ar w g A c base bs s) (hk : k ≤ s) (hC : Chg (arF g A) w w2) (hb : Below w2.heap.size w2 w3)
    (hB : Blk w3 g #[.int .i64 base, .slice A bs.length c, .int .i64 ((s - k : Nat) : Int)] 116)
    (hO : w3.ownsRow w2.heap.size 5 1 (.slice A' n' c') n' (bvals cs)) :
    ArTo w (arF g A) g (base + k) (bs.drop k) (s - k) 0 (.returned (.int .i64 0)) ((w3.setCell ⟨g, 1, none⟩ (.slice A' n' c')).setCell ⟨g, 0, none⟩ (.int .i64 x)) := by
  subst hn' hx hcs
  have hne := own_not_blk7 hO hB (by decide)
  refine trim_end h hk (((hC.then_ hb).set (.inl (.inl rfl)) 1 _).set (.inl (.inl rfl)) 0 _) (Blk.set (Blk.set hB 1 (.slice A' (bs.length - k) c')) 0 (.int .i64 (base + k))) rfl ?_ ?_
  · exact own_chg (own_chg (own_mono hO (Nat.zero_le _)) (chg_set w3 g 1 _) (fun q e e2 => hne (by rw [e, e2]))) (chg_set _ g 0 _) (fun q e e2 => hne (by rw [e, e2]))
  · intro q e
    have := (hO.lt q (by rw [ownBlock_slice]; exact e)).1
    have := hC.size
    omega
set_option maxHeartbeats 1600000 in
theorem areaTrim_any {g : Nat} {A : Option Addr} {c : Nat} {base : Int} {bs : List UInt8} {s : Nat} {w : World} (hA : Ar w g A c base bs s) (k : Nat) (hk : k ≤ s) :
    Calls Try.prog 65 #[.pointer (some ⟨g, 0, none⟩), .int .i64 (base + k)] w (ArTo w (arF g A) g (base + k) (bs.drop k) (s - k) 0) := by
  have c0 : w.cell? ⟨g, 0, none⟩ = _ := hA.blk.cell 0
  have c1 : w.cell? ⟨g, 1, none⟩ = _ := hA.blk.cell 1
  have c2 : w.cell? ⟨g, 2, none⟩ = _ := hA.blk.cell 2
  have f2 := hA.blk.frozen 2
  simp at c0 c1 c2
  have hb0 := hA.b0
  have hb1 := hA.b1
  have hn1 := hA.n1
  have hs := hA.sle
  have hcap := hA.cap
  have t1 : decide (base + (k : Int) < base) = false := decide_eq_false (by omega)
  go_enter Try.func65, Try.ntmps65
  go_wp2_with fail
  go_quiet (fail)
  go_wp2_with fail
  go_region
  simp only [show base + (k : Int) - base = k by omega]
  rw [show (s : Int) - (k : Int) = ((s - k : Nat) : Int) by omega]
  have hC2 : Chg (arF g A) w ((w.drewN (nq + 1)).setCell ⟨g, 2, none⟩ (.int .i64 ((s - k : Nat) : Int))) := (chg_below (below_drew7 w (nq + 1)) _).set (.inl (.inl rfl)) 2 _
  have hB2 : Blk ((w.drewN (nq + 1)).setCell ⟨g, 2, none⟩ (.int .i64 ((s - k : Nat) : Int))) g #[.int .i64 base, .slice A bs.length c, .int .i64 ((s - k : Nat) : Int)] 116 := Blk.set (w := w.drewN (nq + 1)) hA.blk 2 (.int .i64 ((s - k : Nat) : Int))
  have hy2 : Bytes ((w.drewN (nq + 1)).setCell ⟨g, 2, none⟩ (.int .i64 ((s - k : Nat) : Int))) A bs.length bs := hA.bytes.chg ((chg_below (below_drew7 w (nq + 1)) (fun k => k = g)).set (.inl rfl) 2 _) (fun q e e2 => hA.ne (by rw [e, e2]))
  generalize (w.drewN (nq + 1)).setCell ⟨g, 2, none⟩ (.int .i64 ((s - k : Nat) : Int)) = w2 at *
  clear c0 c1 c2 f2
  have c0 : w2.cell? ⟨g, 0, none⟩ = _ := hB2.cell 0
  have c1 : w2.cell? ⟨g, 1, none⟩ = _ := hB2.cell 1
  have f0 := hB2.frozen 0
  have f1 := hB2.frozen 1
  simp at c0 c1
  go_wp2_with fail
  have hX : (A = none ∧ c = 0 ∧ bs = []) ∨ (∃ b, A = some ⟨b, 0, none⟩ ∧ k = c) ∨ (∃ b, A = some ⟨b, 0, none⟩ ∧ k < c) := by
    rcases hA.addr with h | ⟨b, h⟩
    · exact .inl h
    · exact .inr (if e : k = c then .inl ⟨b, h, e⟩ else .inr ⟨b, h, by omega⟩)
  rcases hX with ⟨rfl, rfl, rfl⟩ | ⟨b, rfl, rfl⟩ | ⟨b, rfl, hkc⟩
  · obtain rfl : k = 0 := by simpa using Nat.le_trans hk hs
    have hY : Bytes w2 none 0 (([] : List UInt8).drop 0) := Bytes.empty w2 none
    have hw : IntKind.i64.wrap (base + ((0 : Nat) : Int) - base) = 0 := by rw [show base + ((0 : Nat) : Int) - base = 0 by omega]; exact IntWalk.i64_in _ (by omega)
    have hw2 : IntKind.i64.wrap (base - base) = 0 := by rw [show base - base = 0 by omega]; exact IntWalk.i64_in _ (by omega)
    go_region_with ((go_at_call 67; (with_reducible refine (own7_any _ _ _ _ _ (hY.below (Below.refl _ w2).drew) (Nat.zero_le _)).mono ?_); rintro e w3 ⟨A3, c3, rfl, ho3, hb3⟩; have hb4 := (Below.refl _ w2).drew.trans hb3; have hB4 : Blk w3 g _ _ := hB2.keep hb4; have d0 : w3.cell? ⟨g, 0, none⟩ = some (.int .i64 base) := hB4.cell 0; have d1 : w3.cell? ⟨g, 1, none⟩ = some (.slice none 0 0) := hB4.cell 1; have e0 := hB4.frozen 0; have e1 := hB4.frozen 1))
    all_goals
      clear hw
      go_wp2_with fail
      go_ret
      exact trim_fin (by first | rfl | omega) (by first | rfl | omega) (by first | rfl | exact (List.drop_eq_nil_of_le hcap).symm) hA hk hC2 hb4 hB4 ho3
  · have hY : Bytes w2 (some ⟨b, 0, none⟩) 0 [] := Bytes.empty _ _
    have hkl : k ≤ bs.length := by omega
    have hkl2 : (k : Int) ≤ (bs.length : Int) := by omega
    have hn3 : (0 : Nat) ≤ 214748364800000 := by omega
    have hw : IntKind.i64.wrap (base + (k : Int) - base) = (k : Int) := by rw [show base + (k : Int) - base = k by omega]; exact IntWalk.i64_in _ (by omega)
    go_region_with ((go_at_call 67; (with_reducible refine (own7_any _ _ _ _ _ (hY.below (Below.refl _ w2).drew) hn3).mono ?_); rintro e w3 ⟨A3, c3, rfl, ho3, hb3⟩; have hb4 := (Below.refl _ w2).drew.trans hb3; have hB4 : Blk w3 g _ _ := hB2.keep hb4; have d0 : w3.cell? ⟨g, 0, none⟩ = some (.int .i64 base) := hB4.cell 0; have d1 : w3.cell? ⟨g, 1, none⟩ = some (.slice (some ⟨b, 0, none⟩) bs.length _) := hB4.cell 1; have e0 := hB4.frozen 0; have e1 := hB4.frozen 1))
    all_goals
      clear hw
      go_wp2_with fail
      go_ret
      exact trim_fin (by first | rfl | omega) (by first | rfl | omega) (by first | rfl | exact (List.drop_eq_nil_of_le hcap).symm) hA hk hC2 hb4 hB4 ho3
  · have hne : ¬ c = k := by omega
    have hY : Bytes w2 (some ⟨b, k, none⟩) (bs.length - k) (bs.drop k) := by simpa using hy2.drop k (by omega)
    have hkl : k ≤ bs.length := by omega
    have hkl2 : (k : Int) ≤ (bs.length : Int) := by omega
    have hn3 : bs.length - k ≤ 214748364800000 := by omega
    have hw : IntKind.i64.wrap (base + (k : Int) - base) = (k : Int) := by rw [show base + (k : Int) - base = k by omega]; exact IntWalk.i64_in _ (by omega)
    go_region_with ((go_at_call 67; (with_reducible refine (own7_any _ _ _ _ _ (hY.below (Below.refl _ w2).drew) hn3).mono ?_); rintro e w3 ⟨A3, c3, rfl, ho3, hb3⟩; have hb4 := (Below.refl _ w2).drew.trans hb3; have hB4 : Blk w3 g _ _ := hB2.keep hb4; have d0 : w3.cell? ⟨g, 0, none⟩ = some (.int .i64 base) := hB4.cell 0; have d1 : w3.cell? ⟨g, 1, none⟩ = some (.slice (some ⟨b, 0, none⟩) bs.length _) := hB4.cell 1; have e0 := hB4.frozen 0; have e1 := hB4.frozen 1))
    all_goals
      clear hw
      go_wp2_with fail
      go_ret
      exact trim_fin (by first | rfl | omega) (by first | rfl | omega) (by first | rfl | exact (List.drop_eq_nil_of_le hcap).symm) hA hk hC2 hb4 hB4 ho3
set_option maxHeartbeats 800000 in
theorem areaTrim_no {g : Nat} {A : Option Addr} {c : Nat} {base : Int} {bs : List UInt8} {s : Nat} {w : World} (h : Ar w g A c base bs s) (n : Int) (hk : n < base ∨ base + s < n) :
    Calls Try.prog 65 #[.pointer (some ⟨g, 0, none⟩), .int .i64 n] w (fun e w' => e = .returned (.int .i64 70) ∧ Below w.heap.size w w') := by
  have c0 : w.cell? ⟨g, 0, none⟩ = _ := h.blk.cell 0
  have c2 : w.cell? ⟨g, 2, none⟩ = _ := h.blk.cell 2
  simp at c0 c2
  have hb0 := h.b0
  have hb1 := h.b1
  have hs := h.sle
  by_cases t1 : n < base
  · go_enter Try.func65, Try.ntmps65
    go_wp2_with fail
    go_quiet (fail)
    go_wp2_with fail
    go_ret
    exact ⟨rfl, below_drew7 _ _⟩
  · have t2 : base + (s : Int) < n := by omega
    have t1 : decide (n < base) = false := decide_eq_false t1
    clear hk
    go_enter Try.func65, Try.ntmps65
    go_wp2_with fail
    go_quiet (fail)
    go_wp2_with fail
    go_ret
    exact ⟨rfl, below_drew7 _ _⟩
end Go.Proofs.Ytodaplkijdjbpaa
