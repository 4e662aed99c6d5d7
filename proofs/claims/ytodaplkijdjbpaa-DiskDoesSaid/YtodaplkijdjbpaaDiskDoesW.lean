/- DiskDoes, walked. -/
import Derived.Test.YtodaplkijdjbpaaDoesW
import Derived.Test.YtodaplkijdjbpaaRefN
import Derived.Test.YtodaplkijdjbpaaFixed
namespace Go.Proofs.Ytodaplkijdjbpaa
open Go.RowKit
set_option linter.unusedVariables false
set_option linter.unusedSimpArgs false
set_option maxRecDepth 100000 in
set_option maxHeartbeats 3200000 in
theorem diskDoes_any (areas : Int) (A : Option Addr) (n c : Nat) (ss : List Ps) (w : World) (h : Script w A n ss) (hn : n ≤ 140737488351232) :
    Calls Try.prog 7 #[.int .i64 areas, .slice A n c] w fun e w' => e = .returned (.bool true) ∧ Below w.heap.size w w' := by
  have hl := Lib.hid h.1
  have x1 := below_alloc w (.cells #[.slice A n c] 23)
  have k1 := Blk.fresh w #[.slice A n c] 23
  have hv := vast_any w.heap.size 1 1 (fun _ => ⟨A, n, c, ss⟩) (w.alloc (.cells #[.slice A n c] 23)) (fun j hj => by obtain rfl : j = 0 := (by omega); exact ⟨k1.cell 0, h.below x1, hn⟩) (by omega)
  have HV := Lib.hid hv
  have HH := Lib.hid h
  clear hv k1 h
  go_enter Try.func7, Try.ntmps7
  go_wp2_with fail
  refine HV.out.mono ?_
  rintro e w1 ⟨b, rfl, hb1, htot⟩
  have hB1 := below_then x1 hb1 x1.size
  cases b with
  | true =>
    go_wp2_with fail
    go_ret
    exact ⟨rfl, hB1⟩
  | false =>
    have htot := htot rfl
    simp only [tot, Nat.zero_add] at htot
    have HTOT := Lib.hid htot
    clear htot HV x1 hb1
    by_cases hbad : areas < 1 ∨ 16 < areas
    · go_wp2_with fail
      refine (refNew_no areas w1 hbad).mono ?_
      rintro e w2 ⟨rfl, hb2⟩
      have hB2 := below_then hB1 hb2 hB1.size
      go_wp2_with fail
      refine (diskNew_no areas _ hbad).mono ?_
      rintro e w3 ⟨rfl, rfl⟩
      have hB3 := hB2.alloc hB2.size (.cells #[.slice none 0 0, .bool false] 48)
      go_wp2_with fail
      refine (fixed_any _).mono ?_
      rintro e w4 ⟨rfl, hb4⟩
      go_wp2_with fail
      go_ret
      exact ⟨rfl, below_then hB3 hb4 hB3.size⟩
    · obtain ⟨m, rfl⟩ : ∃ m : Nat, areas = m := ⟨areas.toNat, by omega⟩
      have hm0 : 1 ≤ m := by omega
      have hm1 : m ≤ 16 := by omega
      go_wp2_with fail
      refine (refNew_any m w1 hm0 hm1).mono ?_
      rintro e w2 ⟨q, rfl, hra, hb2⟩
      have x2 := below_alloc w2 (.cells #[.slice (some ⟨q, 0, none⟩) m m, .bool false] 48)
      have b2 := Blk.fresh w2 #[.slice (some ⟨q, 0, none⟩) m m, .bool false] 48
      have hra3 := hra.below x2
      have hB2 := below_then (below_then hB1 hb2 hB1.size) x2 (below_then hB1 hb2 hB1.size).size
      clear hra
      go_wp2_with fail
      refine (diskNew_any m _ hm0 hm1).mono ?_
      rintro e w4 hh
      obtain ⟨G, pb, rfl, hb4, hA⟩ := apt_new hB2 hh
      have hA4 := hA 0
      have hra4 := hra3.below hb4
      have b4 := b2.keep hb4
      clear hh hA hra3 b2 x2
      go_wp2_with fail
      refine (fixed_any _).mono ?_
      rintro e w5 ⟨rfl, hb5⟩
      have hA5 := (hA4.below hb5).sub (F' := fun k => k < (w2.alloc (.cells #[.slice (some ⟨q, 0, none⟩) m m, .bool false] 48)).heap.size) (fun k e => .inl e)
      have hra5 := hra4.below hb5
      have b5 := b4.keep hb5
      have c0 : w5.cell? ⟨w2.heap.size, 0, none⟩ = some (.slice (some ⟨q, 0, none⟩) m m) := b5.cell 0
      have c1 : w5.cell? ⟨w2.heap.size, 1, none⟩ = some (.bool false) := b5.cell 1
      have hdo := does_any hA5 hra5 (fun k e => by rw [World.size_alloc]; omega) HH.out hn (by have := HTOT.out; omega) m c
      have HDO := Lib.hid hdo
      clear hdo hA5 hA4 hra5 hra4 b4 b5 hb4 hb5 hB2
      unfold rV Pd.new at HDO
      go_wp2_with fail
      refine HDO.out.mono ?_
      rintro e w6 ⟨rfl, -, hB6⟩
      go_wp2_with fail
      go_ret
      exact ⟨rfl, hB6⟩
end Go.Proofs.Ytodaplkijdjbpaa
