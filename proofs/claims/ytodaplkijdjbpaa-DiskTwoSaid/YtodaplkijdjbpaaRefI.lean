/- The document's disk, walked: Image. -/
import Derived.Test.YtodaplkijdjbpaaRefR
import Derived.Deep.RegionLaw
namespace Go.Proofs.Ytodaplkijdjbpaa
open Go.RowKit
set_option linter.unusedVariables false
set_option linter.unusedSimpArgs false
/-- One span more. -/
theorem image_next {w w3 w6 w7 : World} {A A6 A7 : Option Addr} {k c c6 c7 q : Nat} {P : Pd} {F : Nat → Prop} {pa : Pa} {qs : List (Int × Rw)} (hrow : w3.ownsRow w.heap.size 44 2 (.slice A k c) k (spv qs)) (hS : Spans w3 w.heap.size A k c qs) (hB : Below w.heap.size w w3) (hR : RAt w3 (some ⟨q, 0, none⟩) P F)
    (hI : qs.map (fun q => (q.1, q.2.bs)) = P.imageK k) (hIS : P.imageK (k + 1) = P.imageK k ++ [(pa.base, pa.bs.take pa.safe)]) (hb6 : Below w3.heap.size w3 w6) (ho6 : w6.ownsRow w3.heap.size 5 1 (.slice A6 pa.safe c6) pa.safe (bvals (pa.bs.take pa.safe)))
    (hg7 : (w6.alloc (.cells #[.int .i64 pa.base, .slice A6 pa.safe c6] 44)).grownBy w7 (Value.ownBlock (.slice A k c))) (ho7 : w7.ownsRow w.heap.size 44 2 (.slice A7 (k + 1) c7) (k + 1) (spv qs ++ [.int .i64 pa.base, .slice A6 pa.safe c6])) :
    Spans w7 w.heap.size A7 (k + 1) c7 (qs ++ [(pa.base, ⟨A6, pa.safe, c6, pa.bs.take pa.safe⟩)]) ∧ (qs ++ [(pa.base, (⟨A6, pa.safe, c6, pa.bs.take pa.safe⟩ : Rw))]).map (fun q => (q.1, q.2.bs)) = P.imageK (k + 1) ∧ Below w.heap.size w w7 ∧ (RAt w3 (some ⟨q, 0, none⟩) P F → (∀ k, F k → k < w.heap.size) → RAt w7 (some ⟨q, 0, none⟩) P F) := by
  have x := below_alloc w6 (.cells #[.int .i64 pa.base, .slice A6 pa.safe c6] 44)
  have hB6 := below_then hB hb6 hB.size
  have hBx := below_then hB6 x hB6.size
  have hrx := own_below (own_below hrow hb6) x
  have hB7 := hBx.grown hg7 hBx.size (own_base hrow)
  have hsep := ((hS.sep.add hb6 hB.size ho6).below x)
  refine ⟨⟨by rw [List.length_append, hS.len]; rfl, by rw [spv_append]; exact ho7, ?_⟩, by rw [hIS, List.map_append, hI]; rfl, hB7, fun hR hF => ?_⟩
  · rw [List.map_append, List.reverse_append]
    exact hsep.chg (chg_grown hg7) (fun r hr q e e2 => by
      rcases own_apart8 (hsep.own r hr) hrx (by decide) with h0 | h0
      · rw [ownBlock_slice] at h0; rw [h0] at e; cases e
      · exact h0 (by rw [ownBlock_slice, e, e2]))
  · refine ((hR.below hb6).below x).chg ((chg_grown hg7).mono (fun k e e2 => ?_))
    have := own_base hrow k e
    have := hF k e2
    omega
set_option maxHeartbeats 3200000 in
theorem refImage_any {w : World} {A0 : Option Addr} {P : Pd} {F : Nat → Prop} {K : Nat} (h : RAt w A0 P F) (hF : ∀ k, F k → k < w.heap.size) (hl : P.lim K) (hK : K ≤ 4294967296) (c0 : Nat) :
    Calls Try.prog 46 #[rV P A0 c0] w (ImTo P.image w) := by
  have hn := hl.n1
  obtain ⟨q, rfl⟩ := h.addr
  have x1 := below_alloc w (.cells #[.slice (some ⟨q, 0, none⟩) P.n c0, .bool P.armed] 48)
  have b1 := Blk.fresh w #[.slice (some ⟨q, 0, none⟩) P.n c0, .bool P.armed] 48
  have r1 := h.below x1
  have HX := Lib.hid x1
  have HR := Lib.hid r1
  have HL := Lib.hid hl
  have HFF := Lib.hid hF
  unfold rV
  generalize hw1 : w.alloc (.cells #[.slice (some ⟨q, 0, none⟩) P.n c0, .bool P.armed] 48) = w1 at *
  have d0 : w1.cell? ⟨w.heap.size, 0, none⟩ = some (.slice (some ⟨q, 0, none⟩) P.n c0) := b1.cell 0
  clear b1 r1 h hl hF
  go_enter Try.func46, Try.ntmps46
  go_wp2_with fail
  go_loopw [3, 9] (fun v i wr => ∃ k : Nat, ∃ A c qs, k ≤ P.n ∧ i = .int .i64 k ∧ v = .slice A k c ∧ Spans wr w.heap.size A k c qs ∧ Hid (qs.map (fun q => (q.1, q.2.bs)) = P.imageK k) ∧ Below w.heap.size w wr ∧ Hid (RAt wr (some ⟨q, 0, none⟩) P F)) (fun _ i _ => P.n - (intOf i).toNat)
  case atStart => exact ⟨0, none, 0, [], Nat.zero_le _, rfl, rfl, ⟨rfl, World.ownsRow_nil _ _ _ _, Sep.nil _ _⟩, Lib.hid rfl, x1, HR⟩
  case round =>
    clear d0 x1 hw1 HR HX
    obtain ⟨k, A, c, qs, hk, rfl, rfl, hS, HI, hB, HR⟩ := hrel
    by_cases hlt : k < P.n
    · have hj0 : (0 : Int) ≤ (k : Int) := by omega
      have hj1 : (k : Int) < (P.n : Int) := by omega
      obtain ⟨q', B, cc, hq', a0, a1, a2, a3, a4, a5, a6, a7, a8⟩ := HR.out.at_ k hlt
      injection hq' with hq'
      injection hq' with hq'
      subst hq'
      have hla := HL.out.a k hlt
      have l3 := hla.n
      have l4 := hla.s
      have HIS := Lib.hid (P.imageK_succ k)
      generalize P.p k = pa at *
      clear hla
      have HN := Lib.hid (area_new (c := cc) pa a7.1)
      have hx0 := below_alloc wr (.cells (rArr pa B cc) 96)
      have HS1 := Lib.hid (hS.below hx0)
      have HR1 := Lib.hid (HR.out.below hx0)
      have HB1 := Lib.hid (below_then hB hx0 hB.size)
      clear hS HR hB a7 hx0
      unfold rArr at HN HS1 HR1 HB1
      go_upto_region 5 with fail
      generalize wr.alloc (.cells #[.int .i64 pa.base, .int .i64 (pa.safe : Nat), .int .i64 (pa.done : Nat), .slice B pa.bs.length cc, .int .i64 pa.f.d, .int .i64 pa.f.k, .int .u8 ((pa.f.t.toNat : Nat) : Int)] 96) = w3 at *
      obtain ⟨-, k2, k3, k4, k5⟩ := HN.out
      generalize wr.heap.size = gA at *
      clear HN a0 a1 a2 a3 a4 a5 a6
      have hsc : (pa.safe : Int) ≤ (cc : Int) := by omega
      have hs0 : (0 : Int) ≤ (pa.safe : Int) := by omega
      have y5 : Below w3.heap.size w3 (w3.drew.alloc (.cells #[] 5)) := ((Below.refl _ w3).drew).alloc (Nat.le_refl _) _
      have o5 : (w3.drew.alloc (.cells #[] 5)).ownsRow w3.heap.size 5 1 (.slice (some ⟨w3.heap.size, 0, none⟩) 0 0) 0 [] := World.ownsRow_made (e := 5) (size := 1) (base := w3.heap.size) w3.drew #[] 0 (Nat.le_refl _) (by simp [maxLen]) rfl
      have y5' := below_alloc w3 (.cells #[] 5)
      have u0 : (w3.alloc (.cells #[] 5)).cell? ⟨gA, 0, none⟩ = some (.int .i64 pa.base) := (y5'.cell (p := ⟨gA, 0, none⟩) (block_lt_of_cell k2)).trans k2
      have u1 : (w3.alloc (.cells #[] 5)).cell? ⟨gA, 1, none⟩ = some (.int .i64 (pa.safe : Nat)) := (y5'.cell (p := ⟨gA, 1, none⟩) (block_lt_of_cell k3)).trans k3
      have u3 : (w3.alloc (.cells #[] 5)).cell? ⟨gA, 3, none⟩ = some (.slice B pa.bs.length cc) := (y5'.cell (p := ⟨gA, 3, none⟩) (block_lt_of_cell k4)).trans k4
      have hb5 := (k5.take pa.safe l4).below y5
      have hrow := HS1.out.row
      have hw3 := HB1.out.size
      go_region_law (first
          | (refine step_append_any _ (by rfl) _ _ 30 (by rfl) w3.heap.size 5 _ 1 1 Try.underlying30 info_byte7 rfl (by decide) (.slice (some ⟨w3.heap.size, 0, none⟩) 0 0) 0 [] (by rfl) o5 B pa.safe cc _ (by rfl) hb5.rdc (bvals_one _) (by decide) (by decide) (by omega) y5.size ?_; intro A6 c6 w6 ho6 hg6 hne6 hnn6; simp only [Nat.zero_add, List.nil_append] at ho6; have hB6 := y5.grown hg6 y5.size (own_base o5); have v0 : w6.cell? ⟨gA, 0, none⟩ = some (.int .i64 pa.base) := (hB6.cell (p := ⟨gA, 0, none⟩) (block_lt_of_cell k2)).trans k2; have v1 : w6.cell? ⟨gA, 1, none⟩ = some (.int .i64 (pa.safe : Nat)) := (hB6.cell (p := ⟨gA, 1, none⟩) (block_lt_of_cell k3)).trans k3; have v3 : w6.cell? ⟨gA, 3, none⟩ = some (.slice B pa.bs.length cc) := (hB6.cell (p := ⟨gA, 3, none⟩) (block_lt_of_cell k4)).trans k4)
          | (refine step_append_any _ (by rfl) _ _ 34 (by rfl) w.heap.size 44 _ 2 32 Try.underlying34 info_span rfl (by decide) (.slice A k c) k _ (by rfl) (own_below (own_below hrow hB6) (below_alloc _ _)) _ 1 1 [.int .i64 pa.base, .slice A6 pa.safe c6] (by rfl) (rdc_block (cs := #[_, _]) (t := 44) (fr := (0, 0)) (heap_alloc_new _ _)) (by simp [Value.oneCell']) (by decide) (by decide) (by omega) (by simp; have := hB6.size; omega) ?_; intro A7 c7 w7 ho7 hg7 hne7 hnn7))
      all_goals
        have hfin := image_next hrow HS1.out HB1.out HR1.out HI.out HIS.out hB6 ho6 hg7 ho7
        obtain ⟨hS7, hI7, hB7, hR7⟩ := hfin
        have HI7 := Lib.hid hI7
        have HR7 := Lib.hid (hR7 HR1.out HFF.out)
        clear k2 k3 k4 k5 y5 y5' o5 u0 u1 u3 hb5 hrow HS1 HR1 HB1 ho6 hg6 hne6 hnn6 hB6 v0 v1 v3 ho7 hg7 hne7 hnn7 hI7 hR7
        go_wp2_with fail
        go_roundw
        case rel => exact ⟨k + 1, A7, c7, _, hlt, by go_num, rfl, hS7, HI7, hB7, HR7⟩
        case measure => simp [intOf]; omega
    · obtain rfl : k = P.n := by omega
      go_wp2_with fail
      go_ret
      exact ⟨A, P.n, c, qs, rfl, hS, HI.out, hB⟩
end Go.Proofs.Ytodaplkijdjbpaa
