/- DiskNone, walked. -/
import Derived.Test.YtodaplkijdjbpaaFixed
import Derived.Test.YtodaplkijdjbpaaCallN
import Derived.Test.YtodaplkijdjbpaaSteps8
namespace Go.Proofs.Ytodaplkijdjbpaa
open Go.RowKit
set_option linter.unusedVariables false
set_option linter.unusedSimpArgs false
/-- Two variables of six cells, and what is older than a call. -/
theorem boxes_keep {wz w' : World} {q5 q6 : Nat} {a b c d e f g h i j k l : Value} {t t' : TypeId} (h5 : Blk wz q5 #[a, b, c, d, e, f] t) (h6 : Blk wz q6 #[g, h, i, j, k, l] t') (hb : Below wz.heap.size wz w') :
    w'.cell? ⟨q5, 0, none⟩ = some a ∧ w'.cell? ⟨q5, 1, none⟩ = some b ∧ w'.cell? ⟨q5, 2, none⟩ = some c ∧ w'.cell? ⟨q5, 3, none⟩ = some d ∧ w'.cell? ⟨q5, 4, none⟩ = some e ∧ w'.cell? ⟨q5, 5, none⟩ = some f ∧
    w'.cell? ⟨q6, 0, none⟩ = some g ∧ w'.cell? ⟨q6, 1, none⟩ = some h ∧ w'.cell? ⟨q6, 2, none⟩ = some i ∧ w'.cell? ⟨q6, 3, none⟩ = some j ∧ w'.cell? ⟨q6, 4, none⟩ = some k ∧ w'.cell? ⟨q6, 5, none⟩ = some l := by
  have k5 := h5.keep hb
  have k6 := h6.keep hb
  exact ⟨k5.cell 0, k5.cell 1, k5.cell 2, k5.cell 3, k5.cell 4, k5.cell 5, k6.cell 0, k6.cell 1, k6.cell 2, k6.cell 3, k6.cell 4, k6.cell 5⟩
theorem toldNil_s (s : Ps) : (toldNil s).s = [] := by unfold toldNil; split <;> rfl
set_option maxHeartbeats 1600000 in
theorem diskNone_any (A : Option Addr) (n c : Nat) (ss : List Ps) (w : World) (h : Script w A n ss) (hn : n ≤ 140737488351232) :
    Calls Try.prog 9 #[.slice A n c] w fun e w' => e = .returned (.bool true) ∧ Below w.heap.size w w' := by
  go_enter Try.func9, Try.ntmps9
  go_wp2
  go_loopw [9] (fun i wr => ∃ k : Nat, k ≤ n ∧ i = .int .i64 k ∧ Below w.heap.size w wr) (fun i _ => n - (intOf i).toNat)
  case atStart => exact ⟨0, Nat.zero_le _, rfl, Below.refl _ _⟩
  case round =>
    obtain ⟨k, hk, rfl, hB⟩ := hrel
    by_cases hlt : k < n
    · obtain ⟨b, o, s, C, m, cc, F, l, d, rfl, hs, c0, c1, c2, c3, c4, c5, hps, hm, -⟩ := Script.at_ h hB k hlt
      obtain ⟨sk, si, sa, sb, sp, sf⟩ := s
      simp only at c0 c1 c2 c3 c4 c5 hm
      have j0 : (0 : Int) ≤ (k : Int) := by omega
      have j1 : (k : Int) < (n : Int) := by omega
      obtain ⟨x, hx⟩ : ∃ x : Int, (toldNil ⟨sk, si, sa, sb, sp, sf⟩).e = x := ⟨_, rfl⟩
      have hx2 : (0 ≤ sk ∧ sk ≤ 5 ∧ x = 1) ∨ (0 ≤ sk ∧ ¬ sk ≤ 5 ∧ x = 0) ∨ (¬ 0 ≤ sk ∧ x = 0) := by
        subst hx
        unfold toldNil
        by_cases h1 : 0 ≤ sk
        · by_cases h2 : sk ≤ 5
          · exact .inl ⟨h1, h2, by simp [h1, h2]⟩
          · exact .inr (.inl ⟨h1, h2, by simp [h1, h2, Td.no]⟩)
        · exact .inr (.inr ⟨h1, by simp [h1, Td.no]⟩)
      have ht : toldNil ⟨sk, si, sa, sb, sp, sf⟩ = ⟨x, 0, 0, 0, [], []⟩ := by
        subst hx
        unfold toldNil
        split <;> rfl
      have HT := Lib.hid ht
      clear ht hx
      rcases hx2 with ⟨h1, h2, rfl⟩ | ⟨h1, h2, rfl⟩ | ⟨h1, rfl⟩
      · have x1 := below_alloc wr (.cells #[.int .i64 sk, .int .i64 si, .int .i64 sa, .int .i64 sb, .slice C m cc, .slice F l d] 33)
        have x2 := below_then x1 (below_alloc (wr.alloc (.cells #[.int .i64 sk, .int .i64 si, .int .i64 sa, .int .i64 sb, .slice C m cc, .slice F l d] 33)) (.cells #[.int .i64 1, .int .i64 0, .int .i64 0, .int .i64 0, .slice none 0 0, .slice none 0 0] 36)) x1.size
        have k1 := (Blk.fresh wr #[.int .i64 sk, .int .i64 si, .int .i64 sa, .int .i64 sb, .slice C m cc, .slice F l d] 33).keep (below_alloc (wr.alloc (.cells #[.int .i64 sk, .int .i64 si, .int .i64 sa, .int .i64 sb, .slice C m cc, .slice F l d] 33)) (.cells #[.int .i64 1, .int .i64 0, .int .i64 0, .int .i64 0, .slice none 0 0, .slice none 0 0] 36))
        have k2 := Blk.fresh (wr.alloc (.cells #[.int .i64 sk, .int .i64 si, .int .i64 sa, .int .i64 sb, .slice C m cc, .slice F l d] 33)) #[.int .i64 1, .int .i64 0, .int .i64 0, .int .i64 0, .slice none 0 0, .slice none 0 0] 36
        rw [World.size_alloc] at k2
        have hpz := hps.below x2
        have hBz := below_then hB x2 hB.size
        clear hps hs hm x1
        go_upto_region 8 with fail
        clear c0 c1 c2 c3 c4 c5
        generalize (wr.alloc (.cells #[.int .i64 sk, .int .i64 si, .int .i64 sa, .int .i64 sb, .slice C m cc, .slice F l d] 33)).alloc (.cells #[.int .i64 1, .int .i64 0, .int .i64 0, .int .i64 0, .slice none 0 0, .slice none 0 0] 36) = wz at *
        obtain ⟨e0, e1, e2, e3, e4, e5, g0, g1, g2, g3, g4, g5⟩ := boxes_keep k1 k2 (Below.refl _ wz)
        go_region_held3 (fun w' => w'.cell? ⟨wr.heap.size, 0, none⟩ = some (.int .i64 sk) ∧ w'.cell? ⟨wr.heap.size, 1, none⟩ = some (.int .i64 si) ∧ w'.cell? ⟨wr.heap.size, 2, none⟩ = some (.int .i64 sa) ∧ w'.cell? ⟨wr.heap.size, 3, none⟩ = some (.int .i64 sb) ∧ w'.cell? ⟨wr.heap.size, 4, none⟩ = some (.slice C m cc) ∧ w'.cell? ⟨wr.heap.size, 5, none⟩ = some (.slice F l d) ∧
          w'.cell? ⟨wr.heap.size + 1, 0, none⟩ = some (.int .i64 1) ∧ w'.cell? ⟨wr.heap.size + 1, 1, none⟩ = some (.int .i64 0) ∧ w'.cell? ⟨wr.heap.size + 1, 2, none⟩ = some (.int .i64 0) ∧ w'.cell? ⟨wr.heap.size + 1, 3, none⟩ = some (.int .i64 0) ∧ w'.cell? ⟨wr.heap.size + 1, 4, none⟩ = some (.slice none 0 0) ∧ w'.cell? ⟨wr.heap.size + 1, 5, none⟩ = some (.slice none 0 0))
          (first | exact boxes_keep k1 k2 kB | exact boxes_keep k1 k2 kA | exact boxes_keep k1 k2 (Below.refl _ _) | exact boxes_keep k1 k2 (Below.refl _ _).drew)
          (first | (go_at_call 16; refine (calln_any (hpz.below (Below.refl _ wz).drew)).mono ?_; rintro e w3 ⟨v3, rfl, ht3, hb3⟩; have kA : Below wz.heap.size wz w3 := (Below.refl _ wz).drew.trans hb3) | (go_at_call 35; refine (alike_same _ _ _ _ ht3 (by rw [HT.out]; exact ⟨none, 0, 0, none, 0, 0, rfl, Bytes.empty _ _, SpAt.nil _ _⟩) (by rw [toldNil_s]; simp)).mono ?_; rintro e w4 ⟨rfl, hb4⟩; have kB : Below wz.heap.size wz w4 := below_then kA hb4 kA.size))
        have hB4 := below_then hBz kB hBz.size
        clear kA kB hb3 hb4 ht3 k1 k2 hpz hBz x2 e0 e1 e2 e3 e4 e5 g0 g1 g2 g3 g4 g5
        go_wp2_with fail
        go_roundw
        case rel => exact ⟨k + 1, hlt, by go_num, hB4⟩
        case measure => simp [intOf]; omega
      · have x1 := below_alloc wr (.cells #[.int .i64 sk, .int .i64 si, .int .i64 sa, .int .i64 sb, .slice C m cc, .slice F l d] 33)
        have x2 := below_then x1 (below_alloc (wr.alloc (.cells #[.int .i64 sk, .int .i64 si, .int .i64 sa, .int .i64 sb, .slice C m cc, .slice F l d] 33)) (.cells #[.int .i64 0, .int .i64 0, .int .i64 0, .int .i64 0, .slice none 0 0, .slice none 0 0] 36)) x1.size
        have k1 := (Blk.fresh wr #[.int .i64 sk, .int .i64 si, .int .i64 sa, .int .i64 sb, .slice C m cc, .slice F l d] 33).keep (below_alloc (wr.alloc (.cells #[.int .i64 sk, .int .i64 si, .int .i64 sa, .int .i64 sb, .slice C m cc, .slice F l d] 33)) (.cells #[.int .i64 0, .int .i64 0, .int .i64 0, .int .i64 0, .slice none 0 0, .slice none 0 0] 36))
        have k2 := Blk.fresh (wr.alloc (.cells #[.int .i64 sk, .int .i64 si, .int .i64 sa, .int .i64 sb, .slice C m cc, .slice F l d] 33)) #[.int .i64 0, .int .i64 0, .int .i64 0, .int .i64 0, .slice none 0 0, .slice none 0 0] 36
        rw [World.size_alloc] at k2
        have hpz := hps.below x2
        have hBz := below_then hB x2 hB.size
        clear hps hs hm x1
        go_upto_region 8 with fail
        clear c0 c1 c2 c3 c4 c5
        generalize (wr.alloc (.cells #[.int .i64 sk, .int .i64 si, .int .i64 sa, .int .i64 sb, .slice C m cc, .slice F l d] 33)).alloc (.cells #[.int .i64 0, .int .i64 0, .int .i64 0, .int .i64 0, .slice none 0 0, .slice none 0 0] 36) = wz at *
        obtain ⟨e0, e1, e2, e3, e4, e5, g0, g1, g2, g3, g4, g5⟩ := boxes_keep k1 k2 (Below.refl _ wz)
        go_region_held3 (fun w' => w'.cell? ⟨wr.heap.size, 0, none⟩ = some (.int .i64 sk) ∧ w'.cell? ⟨wr.heap.size, 1, none⟩ = some (.int .i64 si) ∧ w'.cell? ⟨wr.heap.size, 2, none⟩ = some (.int .i64 sa) ∧ w'.cell? ⟨wr.heap.size, 3, none⟩ = some (.int .i64 sb) ∧ w'.cell? ⟨wr.heap.size, 4, none⟩ = some (.slice C m cc) ∧ w'.cell? ⟨wr.heap.size, 5, none⟩ = some (.slice F l d) ∧
          w'.cell? ⟨wr.heap.size + 1, 0, none⟩ = some (.int .i64 0) ∧ w'.cell? ⟨wr.heap.size + 1, 1, none⟩ = some (.int .i64 0) ∧ w'.cell? ⟨wr.heap.size + 1, 2, none⟩ = some (.int .i64 0) ∧ w'.cell? ⟨wr.heap.size + 1, 3, none⟩ = some (.int .i64 0) ∧ w'.cell? ⟨wr.heap.size + 1, 4, none⟩ = some (.slice none 0 0) ∧ w'.cell? ⟨wr.heap.size + 1, 5, none⟩ = some (.slice none 0 0))
          (first | exact boxes_keep k1 k2 kB | exact boxes_keep k1 k2 kA | exact boxes_keep k1 k2 (Below.refl _ _) | exact boxes_keep k1 k2 (Below.refl _ _).drew)
          (first | (go_at_call 16; refine (calln_any (hpz.below (Below.refl _ wz).drew)).mono ?_; rintro e w3 ⟨v3, rfl, ht3, hb3⟩; have kA : Below wz.heap.size wz w3 := (Below.refl _ wz).drew.trans hb3) | (go_at_call 35; refine (alike_same _ _ _ _ ht3 (by rw [HT.out]; exact ⟨none, 0, 0, none, 0, 0, rfl, Bytes.empty _ _, SpAt.nil _ _⟩) (by rw [toldNil_s]; simp)).mono ?_; rintro e w4 ⟨rfl, hb4⟩; have kB : Below wz.heap.size wz w4 := below_then kA hb4 kA.size))
        have hB4 := below_then hBz kB hBz.size
        clear kA kB hb3 hb4 ht3 k1 k2 hpz hBz x2 e0 e1 e2 e3 e4 e5 g0 g1 g2 g3 g4 g5
        go_wp2_with fail
        go_roundw
        case rel => exact ⟨k + 1, hlt, by go_num, hB4⟩
        case measure => simp [intOf]; omega
      · have x1 := below_alloc wr (.cells #[.int .i64 sk, .int .i64 si, .int .i64 sa, .int .i64 sb, .slice C m cc, .slice F l d] 33)
        have x2 := below_then x1 (below_alloc (wr.alloc (.cells #[.int .i64 sk, .int .i64 si, .int .i64 sa, .int .i64 sb, .slice C m cc, .slice F l d] 33)) (.cells #[.int .i64 0, .int .i64 0, .int .i64 0, .int .i64 0, .slice none 0 0, .slice none 0 0] 36)) x1.size
        have k1 := (Blk.fresh wr #[.int .i64 sk, .int .i64 si, .int .i64 sa, .int .i64 sb, .slice C m cc, .slice F l d] 33).keep (below_alloc (wr.alloc (.cells #[.int .i64 sk, .int .i64 si, .int .i64 sa, .int .i64 sb, .slice C m cc, .slice F l d] 33)) (.cells #[.int .i64 0, .int .i64 0, .int .i64 0, .int .i64 0, .slice none 0 0, .slice none 0 0] 36))
        have k2 := Blk.fresh (wr.alloc (.cells #[.int .i64 sk, .int .i64 si, .int .i64 sa, .int .i64 sb, .slice C m cc, .slice F l d] 33)) #[.int .i64 0, .int .i64 0, .int .i64 0, .int .i64 0, .slice none 0 0, .slice none 0 0] 36
        rw [World.size_alloc] at k2
        have hpz := hps.below x2
        have hBz := below_then hB x2 hB.size
        clear hps hs hm x1
        go_upto_region 8 with fail
        clear c0 c1 c2 c3 c4 c5
        generalize (wr.alloc (.cells #[.int .i64 sk, .int .i64 si, .int .i64 sa, .int .i64 sb, .slice C m cc, .slice F l d] 33)).alloc (.cells #[.int .i64 0, .int .i64 0, .int .i64 0, .int .i64 0, .slice none 0 0, .slice none 0 0] 36) = wz at *
        obtain ⟨e0, e1, e2, e3, e4, e5, g0, g1, g2, g3, g4, g5⟩ := boxes_keep k1 k2 (Below.refl _ wz)
        go_region_held3 (fun w' => w'.cell? ⟨wr.heap.size, 0, none⟩ = some (.int .i64 sk) ∧ w'.cell? ⟨wr.heap.size, 1, none⟩ = some (.int .i64 si) ∧ w'.cell? ⟨wr.heap.size, 2, none⟩ = some (.int .i64 sa) ∧ w'.cell? ⟨wr.heap.size, 3, none⟩ = some (.int .i64 sb) ∧ w'.cell? ⟨wr.heap.size, 4, none⟩ = some (.slice C m cc) ∧ w'.cell? ⟨wr.heap.size, 5, none⟩ = some (.slice F l d) ∧
          w'.cell? ⟨wr.heap.size + 1, 0, none⟩ = some (.int .i64 0) ∧ w'.cell? ⟨wr.heap.size + 1, 1, none⟩ = some (.int .i64 0) ∧ w'.cell? ⟨wr.heap.size + 1, 2, none⟩ = some (.int .i64 0) ∧ w'.cell? ⟨wr.heap.size + 1, 3, none⟩ = some (.int .i64 0) ∧ w'.cell? ⟨wr.heap.size + 1, 4, none⟩ = some (.slice none 0 0) ∧ w'.cell? ⟨wr.heap.size + 1, 5, none⟩ = some (.slice none 0 0))
          (first | exact boxes_keep k1 k2 kB | exact boxes_keep k1 k2 kA | exact boxes_keep k1 k2 (Below.refl _ _) | exact boxes_keep k1 k2 (Below.refl _ _).drew)
          (first | (go_at_call 16; refine (calln_any (hpz.below (Below.refl _ wz).drew)).mono ?_; rintro e w3 ⟨v3, rfl, ht3, hb3⟩; have kA : Below wz.heap.size wz w3 := (Below.refl _ wz).drew.trans hb3) | (go_at_call 35; refine (alike_same _ _ _ _ ht3 (by rw [HT.out]; exact ⟨none, 0, 0, none, 0, 0, rfl, Bytes.empty _ _, SpAt.nil _ _⟩) (by rw [toldNil_s]; simp)).mono ?_; rintro e w4 ⟨rfl, hb4⟩; have kB : Below wz.heap.size wz w4 := below_then kA hb4 kA.size))
        have hB4 := below_then hBz kB hBz.size
        clear kA kB hb3 hb4 ht3 k1 k2 hpz hBz x2 e0 e1 e2 e3 e4 e5 g0 g1 g2 g3 g4 g5
        go_wp2_with fail
        go_roundw
        case rel => exact ⟨k + 1, hlt, by go_num, hB4⟩
        case measure => simp [intOf]; omega
    · obtain rfl : k = n := by omega
      go_wp2_with fail
      refine (fixed_any _).mono ?_
      rintro e w2 ⟨rfl, hb2⟩
      go_wp2_with fail
      go_ret
      exact ⟨rfl, below_then hB hb2 hB.size⟩
end Go.Proofs.Ytodaplkijdjbpaa
