/- The law WheelServes, walked. -/
import Derived.Test.YtagfigjcoffklaaUntilsW
namespace Go.Proofs.Ytagfigjcoffklaa
open Go.RowKit
/-- Two rows lie apart. -/
def Apart (v u : Value) : Prop := v.ownBlock = none ∨ v.ownBlock ≠ u.ownBlock
theorem apart_bases {w0 w1 : World} {B0 B1 : Nat} {e0 e1 : TypeId} {z0 z1 n0 n1 : Nat} {v u : Value} {xs ys : List Value} (hv : w1.ownsRow B1 e1 z1 v n1 xs) (hu : w0.ownsRow B0 e0 z0 u n0 ys) (h : w0.heap.size ≤ B1) : Apart v u := by
  unfold Apart
  rcases hv.2 with ⟨rfl, _⟩ | ⟨g, cap, cur, rfl, hg, _⟩
  · exact .inl rfl
  · refine .inr fun e => ?_
    have := hu.lt g e.symm
    omega
structure Two (wr : World) (B1 B2 : Nat) (L M K : Value) (n : Nat) (zs : List Int) : Prop where
  m : wr.ownsRow B1 3 1 M n (ivals zs)
  k : wr.ownsRow B2 3 1 K n (ivals zs)
  am : Apart M L
  ak : Apart K L
theorem Two.grown {wr w' : World} {B1 B2 : Nat} {L L' M K : Value} {n : Nat} {zs : List Int} (h : Two wr B1 B2 L M K n zs) (hg : wr.grownBy w' L.ownBlock) (hL : L'.ownBlock = L.ownBlock ∨ ∃ b, L'.ownBlock = some b ∧ wr.heap.size ≤ b) : Two w' B1 B2 L' M K n zs := by
  refine ⟨h.m.kept hg h.am, h.k.kept hg h.ak, ?_, ?_⟩
  · rcases hL with e | ⟨b, e, hb⟩
    · unfold Apart; rw [e]; exact h.am
    · rcases h.m.2 with ⟨rfl, _⟩ | ⟨g, cap, cur, rfl, _⟩
      · exact .inl rfl
      · refine .inr fun e2 => ?_
        rw [e] at e2
        have := h.m.lt b e2
        omega
  · rcases hL with e | ⟨b, e, hb⟩
    · unfold Apart; rw [e]; exact h.ak
    · rcases h.k.2 with ⟨rfl, _⟩ | ⟨g, cap, cur, rfl, _⟩
      · exact .inl rfl
      · refine .inr fun e2 => ?_
        rw [e] at e2
        have := h.k.lt b e2
        omega
theorem Two.below {wr w' : World} {B1 B2 : Nat} {L M K : Value} {n : Nat} {zs : List Int} (h : Two wr B1 B2 L M K n zs) (hb : Below wr.heap.size wr w') : Two w' B1 B2 L M K n zs :=
  h.grown (grown_of_below hb _) (.inl rfl)
set_option maxHeartbeats 1600000 in
theorem wheelServes_any (p n t : Int) (w : World) : Calls Try.prog 5 #[.int .i64 p, .int .i64 n, .int .i64 t] w fun e w' => e = .returned (.bool true) ∧ Below w.heap.size w w' := by
  obtain ⟨zs, c, hl16, h1, h2⟩ := served_two p n t
  have H1 := Lib.hid h1
  have H2 := Lib.hid h2
  clear h1 h2
  obtain ⟨ln, hln⟩ : ∃ ln, zs.length = ln := ⟨_, rfl⟩
  have HLN := Lib.hid hln
  rw [hln] at hl16
  clear hln
  go_enter Try.func5, Try.ntmps5
  go_wp2_with fail
  refine (H1.out _).mono ?_
  rintro e w1 ⟨L, lc, rfl, hL1, hB1⟩
  rw [HLN.out] at hL1 ⊢
  go_wp2_with fail
  refine (H1.out _).mono ?_
  rintro e w2 ⟨M, mc, rfl, hM2, hB2⟩
  rw [HLN.out] at hM2 ⊢
  go_wp2_with fail
  refine (H2.out _).mono ?_
  rintro e w3 ⟨K, kc, rfl, hK3, hB3⟩
  rw [HLN.out] at hK3 ⊢
  have hT3 : Two w3 w1.heap.size w2.heap.size (.slice L ln lc) (.slice M ln mc) (.slice K ln kc) ln zs :=
    ⟨own_below hM2 hB3, hK3, apart_bases hM2 hL1 (Nat.le_refl _), apart_bases hK3 hL1 hB2.size⟩
  have hL3 := own_below (own_below hL1 hB2) hB3
  have hW3 := below_then (below_then hB1 hB2 hB1.size) hB3 (by have := hB1.size; have := hB2.size; omega)
  go_wp2_with fail
  refine (same_any _ _ _ _ _ _ _ _ _ (own_ints hL3 (by omega)) (own_ints hK3 (by omega))).mono ?_
  rintro e w4 ⟨rfl, hB4⟩
  rw [show decide (zs = zs) = true from decide_eq_true rfl]
  have hT4 := hT3.below hB4
  have hL4 := own_below hL3 hB4
  have hW4 := below_then hW3 hB4 hW3.size
  clear hT3 hL3 hL1 hM2 hK3
  go_wp2
  go_loopw [13] (fun i wr => ∃ k : Nat, ∃ ys : List Int, k ≤ ln ∧ i = .int .i64 k ∧ wr.ownsRow w.heap.size 3 1 (.slice L ln lc) ln (ivals ys) ∧ Below w.heap.size w wr ∧ Two wr w1.heap.size w2.heap.size (.slice L ln lc) (.slice M ln mc) (.slice K ln kc) ln zs) (fun i _ => ln - (intOf i).toNat)
  case atStart => exact ⟨0, _, by omega, rfl, hL4, hW4, hT4⟩
  case round =>
    clear hT4 hL4 hW4
    obtain ⟨k, ys, hk, rfl, hor, hBr, hTr⟩ := hrel
    have hyl : ys.length = ln := by have := hor.1; rwa [ivals_length, Nat.mul_one] at this
    have HY := Lib.hid hyl
    clear hyl
    by_cases hlt : k < ln
    · obtain ⟨g, rfl⟩ : ∃ g, L = some ⟨g, 0, none⟩ := by
        rcases hor.2 with ⟨e, _⟩ | ⟨g, cap, cur, e, _⟩
        · injection e with e1 e2 e3; omega
        · injection e with e1 e2 e3; exact ⟨g, e1⟩
      have hc : wr.cell? ⟨g, k, none⟩ = some (.int .i64 (ys.getD k 0)) := (hor.cellAt k (by omega)).trans (ivals_at ys k (by rw [HY.out]; exact hlt))
      have hf := hor.frozenAt k
      have hst := hor.stored k (.int .i64 (-1 - k))
      rw [ivals_set] at hst
      have hg := hor.lt g rfl
      have hB2 : Below w.heap.size w (wr.setCell ⟨g, k, none⟩ (.int .i64 (-1 - k))) := hBr.setCell (by exact hg.1) _
      have hT2 := hTr.grown (grown_set wr g k (.int .i64 (-1 - k))) (L' := .slice (some ⟨g, 0, none⟩) ln lc) (.inl rfl)
      go_wp2
      go_roundw
      case rel => exact ⟨k + 1, _, by omega, by go_num, hst.1, hB2, hT2⟩
      case measure => simp [intOf]; omega
    · obtain rfl : k = ln := by omega
      go_wp2
      go_loopw [7, 14] (fun v i wr => ∃ j : Nat, ∃ L2 : Option Addr, ∃ m2 c2 : Nat, ∃ ys2 : List Int, j ≤ 70 ∧ m2 = k + j ∧ i = .int .i64 j ∧ v = .slice L2 m2 c2 ∧ wr.ownsRow w.heap.size 3 1 (.slice L2 m2 c2) m2 (ivals ys2) ∧ Below w.heap.size w wr ∧ Two wr w1.heap.size w2.heap.size (.slice L2 m2 c2) (.slice M k mc) (.slice K k kc) k zs) (fun _ i _ => 70 - (intOf i).toNat)
      case atStart => exact ⟨0, L, k, lc, ys, by omega, rfl, rfl, rfl, hor, hBr, hTr⟩
      case round =>
        clear hBr hor hTr HY
        obtain ⟨j, L2, m2, c2, ys2, hj, rfl, rfl, rfl, hor, hBr, hTr⟩ := hrel
        by_cases hlt2 : j < 70
        · have hBa := (Below.refl wr.heap.size wr).alloc (Nat.le_refl _) (.cells #[Value.int .i64 (-100)] 3)
          have hora := own_below hor hBa
          have hTa := hTr.below hBa
          have hR := rdc_block (heap_alloc_new wr (.cells #[Value.int .i64 (-100)] 3))
          have hBw := below_then hBr hBa hBr.size
          go_wp2_with (at_builtin; refine wpl_append _ rfl (.tmp 62) (.tmp 63) 29 rfl w.heap.size 3 _ 1 8 Try.underlying29 info_int rfl (by decide) (.slice L2 (k + j) c2) (k + j) _ rfl hora _ 1 _ _ rfl hR (ivals_one [-100]) (by decide) (by decide) (by omega) hBw.size ?_; intro A2 c3 wa hown2 hgr2 hne2 hnn2; clear hnn2)
          have hT2 := hTa.grown hgr2 hne2
          have hB2 := hBw.grown hgr2 hBw.size (own_base hora)
          rw [show ivals ys2 ++ (#[Value.int .i64 (-100)]).toList = ivals (ys2 ++ [-100]) by rw [ivals_append]; rfl] at hown2
          go_roundw
          case rel => exact ⟨j + 1, A2, _, c3, _, by omega, by omega, by go_num, rfl, hown2, hB2, hT2⟩
          case measure => simp [intOf]; omega
        · obtain rfl : j = 70 := by omega
          go_wp2_with fail
          refine (H1.out _).mono ?_
          rintro e w5 ⟨Z, zc, rfl, hZ5, hB5⟩
          rw [HLN.out] at hZ5 ⊢
          have hT5 := hTr.below hB5
          have hB5' := below_then hBr hB5 hBr.size
          go_wp2_with fail
          refine (same_any _ _ _ _ _ _ _ _ _ (own_ints hT5.m (by omega)) (own_ints hT5.k (by omega))).mono ?_
          rintro e w6 ⟨rfl, hB6⟩
          rw [show decide (zs = zs) = true from decide_eq_true rfl]
          have hT6 := hT5.below hB6
          have hZ6 := own_below hZ5 hB6
          have hB6' := below_then hB5' hB6 hB5'.size
          go_wp2_with fail
          refine (same_any _ _ _ _ _ _ _ _ _ (own_ints hZ6 (by omega)) (own_ints hT6.k (by omega))).mono ?_
          rintro e w7 ⟨rfl, hB7⟩
          rw [show decide (zs = zs) = true from decide_eq_true rfl]
          have hB7' := below_then hB6' hB7 hB6'.size
          go_wp2_with fail
          refine (awake_any _).mono ?_
          rintro e w8 ⟨rfl, hB8⟩
          go_wp2
          go_ret
          exact ⟨rfl, below_then hB7' hB8 hB7'.size⟩
end Go.Proofs.Ytagfigjcoffklaa
