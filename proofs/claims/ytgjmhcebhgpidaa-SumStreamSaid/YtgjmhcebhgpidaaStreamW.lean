/- The law SumStream, walked. -/
import Derived.Test.YtgjmhcebhgpidaaStrm
import Derived.Deep.RegionHeld3
import Derived.Deep.QuietTactic
import Derived.BigQuiet
namespace Go.Proofs.Ytgjmhcebhgpidaa
open Go.RowKit
theorem below_draws (w : World) (n : Nat) : Below w.heap.size w (w.drewN n) := ⟨rfl, rfl, rfl, Nat.le_refl _, fun _ _ => rfl⟩
theorem sum_val {w : World} {g o : Nat} {n c : Int} (h : St w g o n c) (m : Nat) : Calls Try.prog 19 #[.pointer (some ⟨g, o, none⟩)] (w.drewN m) fun e w' => e = .returned (.int .u32 n) ∧ w' = w.drewN m :=
  (sum_any g o n c (w.drewN m) ⟨h.s, h.c, h.fs, h.fc⟩).mono fun _ _ ⟨h1, h2⟩ => ⟨h1, h2.symm⟩
theorem len_val {w : World} {g o : Nat} {n c : Int} (h : St w g o n c) (m : Nat) : Calls Try.prog 20 #[.pointer (some ⟨g, o, none⟩)] (w.drewN m) fun e w' => e = .returned (.int .i64 c) ∧ w' = w.drewN m :=
  (len_any g o n c (w.drewN m) ⟨h.s, h.c, h.fs, h.fc⟩).mono fun _ _ ⟨h1, h2⟩ => ⟨h1, h2.symm⟩
theorem refOf_val {w : World} {A : Option Addr} {l c : Nat} {bs : List UInt8} {n : Int} (h : Bytes w A l bs) (u : U n (Crc.more 0 bs)) (m : Nat) : Calls Try.prog 10 #[.slice A l c] (w.drewN m) fun e w' => e = .returned (.int .u32 n) ∧ w' = w.drewN m :=
  (refOf_any A l c bs (w.drewN m) ⟨h.1, h.2.1, h.2.2⟩).mono fun _ _ ⟨n', h1, h2, h3⟩ => ⟨by rw [h1, h2.trans u.symm], h3.symm⟩
set_option maxRecDepth 100000 in
set_option maxHeartbeats 4000000 in
theorem sumStream_any (A : Option Addr) (n c : Nat) (ops : List OpR) (w : World) (h : RecS IsOp w 3 A n ops) (hn : n ≤ 140737488351232) :
    Calls Try.prog 9 #[.slice A n c] w fun e w' => e = .returned (.bool true) ∧ Below w.heap.size w w' := by
  have hl := Lib.hid h.1
  go_enter Try.func9, Try.ntmps9
  go_wp2_with fail
  refine (written_any _ _ _ _ _ h hn).mono ?_
  rintro e w1 ⟨b, rfl, hB1, hv⟩
  cases b with
  | true =>
    go_wp2
    go_ret
    exact ⟨rfl, hB1⟩
  | false =>
    have HV := Lib.hid (hv rfl)
    clear hv
    go_wp2_with fail
    refine (head_any _).mono ?_
    rintro e w2 ⟨rfl, hB2⟩
    have hB3 := below_then hB1 hB2 hB1.size
    clear hB1 hB2
    go_wp2_with fail
    have hS0 : Strm w w2.heap.size (fun _ => []) (fun _ => []) ((w2.alloc (.cells #[.int .u32 0, .int .i64 0, .int .u32 0, .int .i64 0, .int .u32 0, .int .i64 0] 47)).alloc (.cells #[.slice none 0 0, .slice none 0 0, .slice none 0 0] 49)) := by
      have e1 := heap_alloc2_old w2 (.cells #[.int .u32 0, .int .i64 0, .int .u32 0, .int .i64 0, .int .u32 0, .int .i64 0] 47) (.cells #[.slice none 0 0, .slice none 0 0, .slice none 0 0] 49)
      have e2 := heap_alloc2_new w2 (.cells #[.int .u32 0, .int .i64 0, .int .u32 0, .int .i64 0, .int .u32 0, .int .i64 0] 47) (.cells #[.slice none 0 0, .slice none 0 0, .slice none 0 0] 49)
      refine ⟨fun j hj => ⟨0, ⟨?_, ?_, frozen_of_row _ _ _ _ _ e1, frozen_of_row _ _ _ _ _ e1⟩, U.zero'⟩, fun j hj => ⟨none, 0, ?_, World.ownsRow_nil _ _ _ _⟩, fun j => frozen_of_row _ _ _ _ _ e2, (hB3.alloc hB3.size _).alloc (by simp; have := hB3.size; omega) _, hB3.size, by simp⟩
      · rw [cell_of_row _ _ _ _ _ _ e1]
        have : j = 0 ∨ j = 1 ∨ j = 2 := by omega
        rcases this with rfl | rfl | rfl <;> rfl
      · rw [cell_of_row _ _ _ _ _ _ e1]
        have : j = 0 ∨ j = 1 ∨ j = 2 := by omega
        rcases this with rfl | rfl | rfl <;> rfl
      · rw [cell_of_row _ _ _ _ _ _ e2]
        have : j = 0 ∨ j = 1 ∨ j = 2 := by omega
        rcases this with rfl | rfl | rfl <;> rfl
    generalize (w2.alloc _).alloc _ = w3 at *
    generalize w2.heap.size = H at *
    clear hB3
    go_loopw [18] (fun i wr => ∃ k : Nat, ∃ S : Nat → List UInt8, k ≤ n ∧ i = .int .i64 k ∧ Strm w H S S wr ∧ ∀ j, j < 3 → (S j).length ≤ wrN ops k) (fun i _ => n - (intOf i).toNat)
    case atStart => exact ⟨0, _, by omega, rfl, hS0, fun j hj => by simp⟩
    case round =>
      obtain ⟨k, S, hk, rfl, hS, hlen⟩ := hrel
      by_cases hlt : k < n
      · obtain ⟨b, o, cs, x, rfl, hx, _, ⟨A', l, c', rfl, hlc, hcc, hb, k0, k1, w0, w1⟩, hc⟩ := h.at_ k hlt
        have q0 := hc 0 _ rfl
        have q1 := hc 1 _ rfl
        have q2 := hc 2 _ rfl
        have hB := hS.bel
        have r0 := (hB.cell (p := ⟨b, o + k * 3 + 0, none⟩) (block_lt_of_cell q0)).trans q0
        have r1 := (hB.cell (p := ⟨b, o + k * 3 + 1, none⟩) (block_lt_of_cell q1)).trans q1
        have r2 := (hB.cell (p := ⟨b, o + k * 3 + 2, none⟩) (block_lt_of_cell q2)).trans q2
        rw [Nat.add_zero] at r0
        have hsum := wrN_succ ops k x hx
        have hmono := wrN_mono ops (k + 1) ops.length (by rw [hl.out]; exact hlt) (Nat.le_refl _)
        have hlx : x.b.length = l := hb.1
        have hle : l ≤ 1073741824 := by have := HV.out; omega
        have HL := Lib.hid hlx
        have HX := Lib.hid hx
        have HS := Lib.hid hsum
        have HM := Lib.hid hmono
        have hHlt := hS.lt
        have hHa : H < wr.heap.size := by omega
        have hHlo := hS.lo
        clear q0 q1 q2 hc hx hlx hsum hmono
        obtain ⟨K, Wh, bs⟩ := x
        simp only at k0 k1 w0 w1 r0 r1 r2 hb
        by_cases hth : 0 ≤ Wh ∧ Wh < 3
        · obtain ⟨t0, t1⟩ := hth
          obtain ⟨j, rfl⟩ := Int.eq_ofNat_of_zero_le t0
          obtain ⟨nj, hst, hun⟩ := hS.st j (by omega)
          obtain ⟨Aj, cj, hcj, hoj⟩ := hS.cell j (by omega)
          have hfj := hS.fz j
          have hlj : (S j).length ≤ 1073741824 := by have := hlen j (by omega); have := HM.out; have := HV.out; have := HS.out; omega
          by_cases hK0 : K = 0
          · subst hK0
            go_wp2_with fail
            have hBa : Below wr.heap.size wr ((wr.alloc (.cells #[.int .i64 0, .int .i64 (j : Int), .slice A' l c'] 51)).alloc (.cells #[] 5)) := ((Below.refl _ wr).alloc (Nat.le_refl _) _).alloc (by simp) _
            have o1 : ((wr.alloc (.cells #[.int .i64 0, .int .i64 (j : Int), .slice A' l c'] 51)).alloc (.cells #[] 5)).cell? ⟨wr.heap.size, 1, none⟩ = some (.int .i64 (j : Int)) := (cell_of_row _ _ _ _ _ _ (heap_alloc2_old _ _ _)).trans rfl
            have o2 : ((wr.alloc (.cells #[.int .i64 0, .int .i64 (j : Int), .slice A' l c'] 51)).alloc (.cells #[] 5)).cell? ⟨wr.heap.size, 2, none⟩ = some (.slice A' l c') := (cell_of_row _ _ _ _ _ _ (heap_alloc2_old _ _ _)).trans rfl
            have olt : wr.heap.size < ((wr.alloc (.cells #[.int .i64 0, .int .i64 (j : Int), .slice A' l c'] 51)).alloc (.cells #[] 5)).heap.size := by simp <;> omega
            generalize (wr.alloc (.cells #[.int .i64 0, .int .i64 (j : Int), .slice A' l c'] 51)).alloc (.cells #[] 5) = wa at *
            have hSa := hS.below hBa
            have hoa := own_below hoj hBa
            refine (copied_any _ _ _ _ _ (hb.below hSa.bel) (by omega)).mono ?_
            rintro e wb ⟨A3, c3, rfl, ho3, hBb, -⟩
            have hSb := hSa.below hBb
            obtain ⟨nb, hstb, hub⟩ := hSb.st j (by omega)
            go_wp2_with fail
            refine (write_any _ _ _ _ _ _ _ _ _ _ hstb hub (own_bytes' ho3 (by omega)) (by omega) (by omega)).mono ?_
            rintro e wx ⟨rfl, we, n6, u6, hBe, rfl⟩
            have hae := below_then hBb hBe hBb.size
            have hSf := (hSb.below hBe).put j (by omega) (S j ++ bs) (n' := n6) (c' := ((S j).length : Int) + (l : Int)) (by rw [Crc.more_append]; exact u6) (by rw [List.length_append, HL.out]; omega)
            have hof := ownsRow_setCell_below (ownsRow_setCell_below (own_below hoa hae) (a := ⟨H, j * 2, none⟩) (by simp) (.int .u32 n6)) (a := ⟨H, j * 2 + 1, none⟩) (by simp) (.int .i64 (((S j).length : Int) + (l : Int)))
            have p1 : ((we.setCell ⟨H, j * 2, none⟩ (.int .u32 n6)).setCell ⟨H, j * 2 + 1, none⟩ (.int .i64 (((S j).length : Int) + (l : Int)))).cell? ⟨wr.heap.size, 1, none⟩ = some (.int .i64 (j : Int)) := by
              rw [World.cell?_setCell_other _ _ _ _ (by simp <;> omega), World.cell?_setCell_other _ _ _ _ (by simp <;> omega)]
              exact (hae.cell (p := ⟨wr.heap.size, 1, none⟩) olt).trans o1
            have p2 : ((we.setCell ⟨H, j * 2, none⟩ (.int .u32 n6)).setCell ⟨H, j * 2 + 1, none⟩ (.int .i64 (((S j).length : Int) + (l : Int)))).cell? ⟨wr.heap.size, 2, none⟩ = some (.slice A' l c') := by
              rw [World.cell?_setCell_other _ _ _ _ (by simp <;> omega), World.cell?_setCell_other _ _ _ _ (by simp <;> omega)]
              exact (hae.cell (p := ⟨wr.heap.size, 2, none⟩) olt).trans o2
            generalize (we.setCell _ _).setCell _ _ = wf at *
            have hbf := own_bytes' hof (by omega)
            have hlf := hSf.lt
            generalize wr.heap.size = ob at *
            clear o1 o2 hBa hSa hoa hSb hstb hub hBb hBe hae u6 ho3
            go_wp2_with fail
            have hne : H + 1 ≠ ob := by omega
            have hof2 : ob < wf.heap.size := block_lt_of_cell p1
            have hwf : w.heap.size ≤ wf.heap.size := hSf.bel.size
            go_region_held3 (fun w' => w'.cell? ⟨ob, 1, none⟩ = some (.int .i64 (j : Int)) ∧ w'.cell? ⟨ob, 2, none⟩ = some (.slice A' l c'))
              (first | exact ⟨(World.cell?_setCell_other _ _ _ _ (by simp <;> omega)).trans kC, (World.cell?_setCell_other _ _ _ _ (by simp <;> omega)).trans kD⟩ | exact ⟨kC, kD⟩ | exact ⟨kA, kB⟩ | exact ⟨p1, p2⟩)
              (first | (go_at_call 11; refine (copied_any _ _ _ _ _ (hbf.below (Below.refl _ _).drew) (by omega)).mono ?_; rintro e wg ⟨A7, c7, rfl, ho7, hBg, -⟩; have hBfg : Below wf.heap.size wf wg := (Below.refl _ wf).drew.trans hBg; have kA := (hBfg.cell (p := ⟨ob, 1, none⟩) hof2).trans p1; have kB := (hBfg.cell (p := ⟨ob, 2, none⟩) hof2).trans p2) | (refine step_append_any _ (by rfl) (.tmp 53) (.tmp 55) 22 (by rfl) (H + 2) 5 _ 1 1 Try.underlying22 info_byte rfl (by decide) (.slice A7 (S j).length c7) (S j).length _ (by rfl) (own_mono ho7 (by have := hSf.lt; exact this)) _ l c' _ (by rfl) (hb.below (hSf.bel.trans (hBfg.mono hwf))).rdc (bvals_one _) (by decide) (by decide) (by omega) (by have := hBfg.size; have := hSf.lt; omega) ?_; intro A8 c8 wh ho8 hg8 hne8 hnn8; have hBfh : Below wf.heap.size wf wh := hBfg.grown hg8 hBfg.size (own_base ho7); have kC := (hBfh.cell (p := ⟨ob, 1, none⟩) hof2).trans p1; have kD := (hBfh.cell (p := ⟨ob, 2, none⟩) hof2).trans p2; have hSh := hSf.below hBfh; have kE := hSh.fz j; obtain ⟨Ah, ch, kF, kG⟩ := hSh.cell j (by omega)))
            have hnew := hSh.store j (by omega) (S j ++ bs) (by rw [List.length_append, HL.out]) (by rw [bvals_append]; exact ho8)
            have hlen' : ∀ i, i < 3 → (upd S j (S j ++ bs) i).length ≤ wrN ops (k + 1) := by
              intro i hi
              have e1 := HS.out
              by_cases e : i = j
              · subst e; rw [upd_same, List.length_append]; have := hlen i hi; omega
              · rw [upd_other _ _ _ _ e]; have := hlen i hi; omega
            clear ho8 hg8 hne8 hnn8 hBfh hBfg kA kB kC kD kE kF kG hSh hSf p1 p2 hof ho7 hBg
            go_wp2
            go_roundw
            case rel => exact ⟨k + 1, _, by omega, by go_num, hnew, hlen'⟩
            case measure => simp [intOf]; omega
          · have hK0' : (K == 0) = false := by rw [beq_eq_false_iff_ne]; exact hK0
            have hBa : Below wr.heap.size wr ((wr.alloc (.cells #[.int .i64 K, .int .i64 (j : Int), .slice A' l c'] 51)).alloc (.cells #[] 5)) := ((Below.refl _ wr).alloc (Nat.le_refl _) _).alloc (by simp) _
            have hSa := hS.below hBa
            obtain ⟨nb, hstb, hub⟩ := hSa.st j (by omega)
            have hoa := own_bytes' (own_below hoj hBa) (by omega)
            have hlen' : ∀ i, i < 3 → (S i).length ≤ wrN ops (k + 1) := by
              intro i hi
              have := hlen i hi
              have := HS.out
              omega
            have hfa := hSa.fz j
            have hput := hSa.put j (by omega) [] (n' := 0) (c' := 0) U.zero' rfl
            obtain ⟨Ap, cp, hcp, -⟩ := hput.cell j (by omega)
            have hfp := hput.fz j
            have hst2 := hput.store j (by omega) [] (A' := none) (m := 0) (c' := 0) rfl (World.ownsRow_nil _ _ _ _)
            have hlen3 : ∀ i, i < 3 → (upd S j [] i).length ≤ wrN ops (k + 1) := by
              intro i hi
              by_cases e : i = j
              · subst e; rw [upd_same]; simp
              · rw [upd_other _ _ _ _ e]; exact hlen' i hi
            by_cases hK1 : K = 1
            · subst hK1
              go_wp2_with (first | (go_at_call 19; (with_reducible refine (sum_any _ _ _ _ _ hstb).mono ?_); rintro e w' ⟨rfl, rfl⟩) | (go_at_call 10; (with_reducible refine (refOf_any _ _ _ _ _ hoa).mono ?_); rintro e w' ⟨n', rfl, u', rfl⟩; obtain rfl : nb = n' := hub.trans u'.symm))
              go_roundw
              case rel => exact ⟨k + 1, _, by omega, by go_num, hSa, hlen'⟩
              case measure => simp [intOf]; omega
            · have hK1' : (K == 1) = false := by rw [beq_eq_false_iff_ne]; exact hK1
              by_cases hK2 : K = 2
              · subst hK2
                go_wp2_with (first | (go_at_call 20; (with_reducible refine (len_any _ _ _ _ _ hstb).mono ?_); rintro e w' ⟨rfl, rfl⟩))
                go_roundw
                case rel => exact ⟨k + 1, _, by omega, by go_num, hSa, hlen'⟩
                case measure => simp [intOf]; omega
              · have hK2' : (K == 2) = false := by rw [beq_eq_false_iff_ne]; exact hK2
                by_cases hK3 : K = 3
                · subst hK3
                  go_wp2_with fail
                  have o1 : ((wr.alloc (.cells #[.int .i64 3, .int .i64 (j : Int), .slice A' l c'] 51)).alloc (.cells #[] 5)).cell? ⟨wr.heap.size, 1, none⟩ = some (.int .i64 (j : Int)) := (cell_of_row _ _ _ _ _ _ (heap_alloc2_old _ _ _)).trans rfl
                  generalize (wr.alloc _).alloc (Obj.cells #[] 5) = wa at *
                  refine (reset_any _ _ _ _ _ hstb).mono ?_
                  rintro e wf ⟨rfl, hwf⟩
                  have p1 : wf.cell? ⟨wr.heap.size, 1, none⟩ = some (.int .i64 (j : Int)) := by
                    rw [hwf, World.cell?_setCell_other _ _ _ _ (by simp <;> omega), World.cell?_setCell_other _ _ _ _ (by simp <;> omega)]
                    exact o1
                  rw [← hwf] at hcp hfp hst2
                  clear o1 hwf hSa hstb hput hfa hoa hcj hfj
                  go_wp2
                  go_roundw
                  case rel => exact ⟨k + 1, _, by omega, by go_num, hst2, hlen3⟩
                  case measure => simp [intOf]; omega
                · have hK3' : (K == 3) = false := by rw [beq_eq_false_iff_ne]; exact hK3
                  go_wp2
                  go_roundw
                  case rel => exact ⟨k + 1, _, by omega, by go_num, hSa, hlen'⟩
                  case measure => simp [intOf]; omega
        · have hth' : Wh < 0 ∨ 3 ≤ Wh := by omega
          have hBa : Below wr.heap.size wr ((wr.alloc (.cells #[.int .i64 K, .int .i64 Wh, .slice A' l c'] 51)).alloc (.cells #[] 5)) := ((Below.refl _ wr).alloc (Nat.le_refl _) _).alloc (by simp) _
          have hSa := hS.below hBa
          have hlen' : ∀ i, i < 3 → (S i).length ≤ wrN ops (k + 1) := by
            intro i hi
            have := hlen i hi
            have := HS.out
            omega
          have hnil : Bytes ((wr.alloc (.cells #[.int .i64 K, .int .i64 Wh, .slice A' l c'] 51)).alloc (.cells #[] 5)) (some ⟨wr.heap.size + 1, 0, none⟩) 0 [] := ⟨rfl, by omega, .inl rfl⟩
          have hbW := hb.below hSa.bel
          have hkind : K = 0 ∨ K = 1 ∨ K = 2 ∨ K = 3 ∨ ((K == 0) = false ∧ (K == 1) = false ∧ (K == 2) = false ∧ (K == 3) = false) := by
            simp only [beq_eq_false_iff_ne]
            omega
          rcases hth' with hth' | hth'
          all_goals
            rcases hkind with rfl | rfl | rfl | rfl | ⟨z0, z1, z2, z3⟩
            · go_wp2_with fail
              (with_reducible refine (copied_any _ _ _ _ _ hbW (by omega)).mono ?_)
              rintro e wb ⟨A3, c3, rfl, ho3, hBb, -⟩
              have hSb := hSa.below hBb
              go_wp2_with (first | (go_at_call 18; (with_reducible refine (write_nil _ _).mono ?_); rintro e w' ⟨rfl, rfl⟩))
              go_roundw
              case rel => exact ⟨k + 1, _, by omega, by go_num, hSb, hlen'⟩
              case measure => simp [intOf]; omega
            · go_wp2_with (first | (go_at_call 19; (with_reducible refine (sum_nil _).mono ?_); rintro e w' ⟨rfl, rfl⟩) | (go_at_call 10; (with_reducible refine (refOf_any _ _ _ _ _ hnil).mono ?_); rintro e w' ⟨n', rfl, u', rfl⟩; obtain rfl : 0 = n' := U.zero'.trans u'.symm))
              go_roundw
              case rel => exact ⟨k + 1, _, by omega, by go_num, hSa, hlen'⟩
              case measure => simp [intOf]; omega
            · go_wp2_with (first | (go_at_call 20; (with_reducible refine (len_nil _).mono ?_); rintro e w' ⟨rfl, rfl⟩))
              go_roundw
              case rel => exact ⟨k + 1, _, by omega, by go_num, hSa, hlen'⟩
              case measure => simp [intOf]; omega
            · go_wp2_with (first | (go_at_call 24; (with_reducible refine (reset_nil _).mono ?_); rintro e w' ⟨rfl, rfl⟩))
              go_roundw
              case rel => exact ⟨k + 1, _, by omega, by go_num, hSa, hlen'⟩
              case measure => simp [intOf]; omega
            · go_wp2
              go_roundw
              case rel => exact ⟨k + 1, _, by omega, by go_num, hSa, hlen'⟩
              case measure => simp [intOf]; omega
      · obtain rfl : k = n := by omega
        have hbd : ∀ i, i < 3 → (S i).length ≤ 1073741824 := fun i hi => by
          have := hlen i hi
          have := HV.out
          have := hl.out
          subst this
          omega
        clear hlen h hl HV hS0
        go_wp2
        go_loopw [11] (fun i wr => ∃ q : Nat, q ≤ 3 ∧ i = .int .i64 q ∧ Strm w H S S wr) (fun i _ => 3 - (intOf i).toNat)
        case atStart => exact ⟨0, by omega, rfl, hS⟩
        case round =>
          obtain ⟨q, hq, rfl, hSq⟩ := hrel
          by_cases hlt3 : q < 3
          · obtain ⟨nq, hstq, huq⟩ := hSq.st q hlt3
            obtain ⟨Aq, cq, hcq, hoq⟩ := hSq.cell q hlt3
            have hbq := own_bytes' hoq (by have := hbd q hlt3; omega)
            have t0 : (0 : Int) ≤ (q : Int) := by omega
            have t1 : (q : Int) < 3 := by omega
            go_wp2_with fail
            go_quiet ((first | (go_at_call 19; exact Calls.quiet_of_same (sum_val hstq _)) | (go_at_call 20; exact Calls.quiet_of_same (len_val hstq _)) | (go_at_call 10; exact Calls.quiet_of_same (refOf_val hbq huq _))))
            go_wp2
            go_roundw
            case rel => exact ⟨q + 1, by omega, by go_num, hSq.below (below_draws _ _)⟩
            case measure => simp [intOf]; omega
          · obtain rfl : q = 3 := by omega
            go_wp2
            go_ret
            exact ⟨rfl, hSq.bel⟩
end Go.Proofs.Ytgjmhcebhgpidaa
