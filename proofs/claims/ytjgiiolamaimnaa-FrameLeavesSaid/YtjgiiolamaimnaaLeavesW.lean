/- FrameLeaves, walked. -/
import Derived.Test.YtjgiiolamaimnaaLeavesP
import Derived.Test.YtjgiiolamaimnaaRow2
import Derived.Test.YtjgiiolamaimnaaLent
import Derived.Test.YtjgiiolamaimnaaMarks
namespace Go.Proofs.Ytjgiiolamaimnaa
open Go.RowKit Go.Shelf
set_option linter.unusedVariables false
set_option linter.unusedSimpArgs false
attribute [local go_sem] Oper.semAt_some
set_option maxRecDepth 100000 in
set_option maxHeartbeats 3200000 in
theorem frameLeaves_any (A : Option Addr) (n c : Nat) (a : List UInt8) (B : Option Addr) (m d : Nat) (b : List UInt8) (w : World) (ha : Bytes w A n a) (hb : Bytes w B m b) :
    Calls Try.prog 14 #[.slice A n c, .slice B m d] w fun e w' => e = .returned (.bool true) ∧ Below w.heap.size w w' := by
  have HLA := Lib.hid ha.1
  have HLB := Lib.hid hb.1
  refine (callsIn_wide (n := 5)).1 ?_
  refine callsIn_of_wp_marks Try.func14 rfl trivial ?_ rfl
  refine wpIn_wide.2 ?_
  simp only [Try.ntmps14, List.size_toArray, List.length_cons, List.length_nil, Nat.reduceAdd, Nat.reduceSub, Array.replicate_succ, Array.replicate_zero, List.push_toArray, List.append_toArray, List.nil_append, List.cons_append]
  go_wp2_with fail
  refine (head_any _).mono ?_
  rintro e w1 ⟨rfl, hB1⟩
  have ha1 := ha.below hB1
  have hb1 := hb.below hB1
  by_cases hna : 65536 < n
  · have hg : (65536 : Int) < (n : Int) := by omega
    go_wp2_with fail
    exact leaves_tmp rfl rfl hB1
  by_cases hmb : 65536 < m
  · have hg : (65536 : Int) < (m : Int) := by omega
    have hg0 : ¬ (65536 : Int) < (n : Int) := by omega
    go_wp2_with fail
    exact leaves_tmp rfl rfl hB1
  have hg1 : ¬ (65536 : Int) < (m : Int) := by omega
  have hg0 : ¬ (65536 : Int) < (n : Int) := by omega
  have hn : n ≤ 65536 := by omega
  have hm : m ≤ 65536 := by omega
  clear hna hmb
  go_wp2_with fail
  refine (lent_any _ _ _ _ _ ha1 (by omega)).mono ?_
  rintro e w2 ⟨A2, c2, rfl, ho2, y2⟩
  have hB2 := below_then hB1 y2 hB1.size
  have ha2 := ha1.below y2
  have hb2 := hb1.below y2
  have hs2 := (Sep.nil w1 w1.heap.size).add y2 (Nat.le_refl _) ho2
  have b2 := hs2.bytes 0 rfl (by omega)
  clear ho2
  go_wp2_with fail
  refine (copied_any _ _ _ _ _ b2 (by omega)).mono ?_
  rintro e w3 ⟨A3, c3, rfl, ho3, y3, -⟩
  have hC3 := below_then y2 y3 y2.size
  have hs3 := hs2.add y3 y2.size ho3
  have b3 := (b2.below y3).take n (by omega)
  rw [List.take_left' HLA.out] at b3
  have hc2 := own_cap4 (hs3.at_ 1 rfl)
  clear ho3 hs2 b2
  go_wp2_with fail
  refine (fmake_any _ _ _ _ _ b3 hn).mono ?_
  rintro e w4 ⟨A4, c4, rfl, ho4, y4⟩
  have hC4 := below_then hC3 y4 hC3.size
  have hs4 := hs3.add y4 hC3.size ho4
  have b4 := b3.below y4
  clear ho4 b3 hs3
  go_wp2_with fail
  refine (fmake_any _ _ _ _ _ b4 hn).mono ?_
  rintro e w5 ⟨A5, c5, rfl, ho5, y5⟩
  have hC5 := below_then hC4 y5 hC4.size
  have hs5 := hs4.add y5 hC4.size ho5
  have yy : Below w2.heap.size w2 w5 := below_then (below_then y3 y4 y3.size) y5 (below_then y3 y4 y3.size).size
  have ha5 := ha2.below yy
  have hb5 := hb2.below yy
  clear ho5 b4 hs4
  have ha6 := ha5.below (below_alloc w5 (.cells #[.slice A n c, .slice B m d] 22))
  have hb6 := hb5.below (below_alloc w5 (.cells #[.slice A n c, .slice B m d] 22))
  have hL6 := Blk.fresh w5 #[.slice A n c, .slice B m d] 22
  go_wp2_with fail
  refine (refRow2_any _ _ _ _ _ _ _ _ _ _ hL6 ha6 hb6 hn hm).mono ?_
  rintro e w7 ⟨A7, c7, rfl, ho7, y7⟩
  have x5 := below_alloc w5 (.cells #[.slice A n c, .slice B m d] 22)
  have z7 := below_then x5 y7 x5.size
  have hC7 := below_then hC5 z7 hC5.size
  have hs7 := hs5.below z7
  have ha7 := ha5.below z7
  have hb7 := hb5.below z7
  have b7 := own_bytes' ho7 (by omega)
  obtain ⟨R, hR⟩ : ∃ R, frameB a ++ frameB b = R := ⟨_, rfl⟩
  have HR := Lib.hid hR
  rw [hR] at b7
  have hRl := Lib.hid b7.1
  clear ho7 hL6 ha6 hb6 hs5 x5 y7 hR
  go_wp2_with fail
  refine (lent_any _ _ _ _ _ b7 (by omega)).mono ?_
  rintro e w8 ⟨A8, c8, rfl, ho8, y8⟩
  have hC8 := below_then hC7 y8 hC7.size
  have hs8 := hs7.add y8 hC7.size ho8
  obtain ⟨g8, rfl⟩ : ∃ g, A8 = some ⟨g, 0, none⟩ := by
    rcases ho8.2 with ⟨h0, _⟩ | ⟨g, cap, cur, hv, _⟩
    · cases h0
    · injection hv with e1
      exact ⟨g, e1⟩
  have b8 := own_bytes' ho8 (by omega)
  have hc8 := own_cap4 ho8
  clear ho8 b7 hs7
  go_wp2_with fail
  refine (copied_any _ _ _ _ _ b8 (by omega)).mono ?_
  rintro e w9 ⟨A9, c9, rfl, ho9, y9, -⟩
  have hC9 := below_then hC8 y9 hC8.size
  have hs9 := hs8.add y9 hC8.size ho9
  have b9 := (b8.below y9).take (n + 9 + (m + 9)) (by omega)
  rw [List.take_left' hRl.out] at b9
  clear ho9 b8 hs8
  go_wp2_with fail
  refine (fread_any _ _ _ _ _ b9 (by omega) (by omega)).mono ?_
  rintro e w10 ⟨A10, c10, rfl, ho10, y10⟩
  have hr1 : rd R = (a, (n : Int) + 9, 0) := by rw [← HR.out, frame_back a (frameB b) (by rw [HLA.out]; exact hn), HLA.out]
  rw [hr1] at ho10 ⊢
  simp only at ho10 ⊢
  rw [HLA.out] at ho10 ⊢
  have hC10 := below_then hC9 y10 hC9.size
  have hs10 := hs9.add y10 hC9.size ho10
  have b10 := (b9.below y10).drop (n + 9) (by omega)
  have hdr : R.drop (n + 9) = frameB b := by rw [← HR.out]; exact List.drop_left' (by rw [frameB_length, HLA.out])
  rw [hdr, show n + 9 + (m + 9) - (n + 9) = m + 9 by omega, Nat.zero_add] at b10
  clear ho10 hs9 hr1 hdr
  go_wp2_with fail
  refine (fread_any _ _ _ _ _ b10 (by omega) (by omega)).mono ?_
  rintro e w11 ⟨A11, c11, rfl, ho11, y11⟩
  have hr2 : rd (frameB b) = (b, (m : Int) + 9, 0) := by
    have := frame_back b [] (by rw [HLB.out]; exact hm)
    rw [List.append_nil] at this
    rw [this, HLB.out]
  rw [hr2] at ho11 ⊢
  simp only at ho11 ⊢
  rw [HLB.out] at ho11 ⊢
  have hC11 := below_then hC10 y11 hC10.size
  have hs11 := hs10.add y11 hC10.size ho11
  clear ho11 hs10 b10 hr2
  have x11 := below_alloc w11 (.cells #[] 22)
  have x12 := below_then x11 (below_alloc (w11.alloc (.cells #[] 22)) (.cells #[.slice (some ⟨w11.heap.size, 0, none⟩) 0 0] 51)) x11.size
  have o12 := own_below (World.ownsRow_made (e := 22) (size := 1) (base := w1.heap.size) w11 #[] 0 hC11.size (by simp [maxLen]) rfl) (below_alloc (w11.alloc (.cells #[] 22)) (.cells #[.slice (some ⟨w11.heap.size, 0, none⟩) 0 0] 51))
  have k12 := Blk.fresh (w11.alloc (.cells #[] 22)) #[.slice (some ⟨w11.heap.size, 0, none⟩) 0 0] 51
  rw [World.size_alloc] at k12
  have hC12 := below_then hC11 x12 hC11.size
  have hL12 : Lst _ w1.heap.size (w11.heap.size + 1) _ 0 (some ⟨w11.heap.size, 0, none⟩) 0 [] := ⟨k12, o12, hs11.below x12⟩
  have hgb1 : w1.heap.size ≤ w11.heap.size := hC11.size
  have yy2 : Below w7.heap.size w7 _ := below_then (below_then (below_then (below_then y8 y9 y8.size) y10 (below_then y8 y9 y8.size).size) y11 (below_then (below_then y8 y9 y8.size) y10 (below_then y8 y9 y8.size).size).size) x12 (below_then (below_then (below_then y8 y9 y8.size) y10 (below_then y8 y9 y8.size).size) y11 (below_then (below_then y8 y9 y8.size) y10 (below_then y8 y9 y8.size).size).size).size
  have ha12 := ha7.below yy2
  have hb12 := hb7.below yy2
  have b12 := ((b9.below y10).below y11).below x12
  clear x11 x12 o12 k12 hs11 b9
  go_wp2_with fail
  generalize hw12 : (w11.alloc (.cells #[] 22)).alloc (.cells #[.slice (some ⟨w11.heap.size, 0, none⟩) 0 0] 51) = w12 at *
  have hz12 : w12.heap.size = w11.heap.size + 2 := by rw [← hw12]; simp
  clear hw12
  refine (fall_any _ _ _ _ _ b12 (by omega)).mono ?_
  rintro e w13 ⟨X, A13, c13, rfl, hAll, y13⟩
  have hA13 : ∀ q, allP X A13 q → w12.heap.size ≤ q ∧ q < w13.heap.size := fun q e => by
    refine ⟨?_, hAll.lt q e⟩
    rcases e with e | e
    · rw [e]; exact hAll.lo
    · exact own_base hAll.own q (by rw [ownBlock_slice]; exact e)
  have hC13 := below_then hC12 y13 hC12.size
  have hL13 := hL12.below y13
  have ha13 := ha12.below y13
  have hb13 := hb12.below y13
  have b13 := b12.below y13
  have hfn := func_nil X w13
  obtain ⟨hF2, hFa, hFb⟩ := allF_two a b (by rw [HLA.out]; exact hn) (by rw [HLB.out]; exact hm)
  rw [HR.out] at hF2 hFa hFb
  have HFA := Lib.hid hFa
  have HFB := Lib.hid hFb
  obtain ⟨rs, hrs⟩ : ∃ rs, ([⟨A11, m, c11, b⟩, ⟨A10, n, c10, a⟩, ⟨A9, n + 9 + (m + 9) + 70, c9, R ++ tailL 70⟩, ⟨some ⟨g8, 0, none⟩, n + 9 + (m + 9) + 70, c8, R ++ tailL 70⟩, ⟨A5, n + 9, c5, frameB a⟩, ⟨A4, n + 9, c4, frameB a⟩, ⟨A3, n + 70, c3, a ++ tailL 70⟩, ⟨A2, n + 70, c2, a ++ tailL 70⟩] : List Rw) = rs := ⟨_, rfl⟩
  rw [hrs] at hL13
  have HRS := Lib.hid hrs
  have hsl : ∀ r ∈ rs, ∀ q, blkO r.A = some q → q < w13.heap.size := fun r hr q e => (Rw.lt (hL13.sep.own r hr) q e).2
  have hI0 : LI w13 w1 (w11.heap.size + 1) w11.heap.size rs R 0 w13 := ⟨_, _, [], hL13, Lib.hid (fun i hi => absurd hi (by omega)), Lib.hid (fun r hr => absurd hr (by simp)), Lib.hid (fun q e => .inl (by injection e with e; exact e.symm)), hC13⟩
  have hz13 := y13.size
  have hPq : ∀ q, allP X A13 q → q < w13.heap.size ∧ q ≠ w11.heap.size + 1 ∧ q ≠ w11.heap.size := fun q e => by have := hA13 q e; exact ⟨by omega, by omega, by omega⟩
  have hfit := allIt w13 _ X A13 (n + 9 + (m + 9)) c13 R 3 hAll (by omega)
  have hPl := hAll.lt
  clear hFa hFb hrs hL13 hL12 b12 ha12 hb12 hAll hA13 yy2 yy z7 y8 y9 y10 y11 y13 ha7 hb7 ha5 hb5 ha2 hb2 ha1 hb1 hC3 hC4 hC5 hC7 hC8 hC9 hC10 hC11 hC12 y2 y3 y4 y5
  go_wp2_with fail
  refine (wpIn_wide (n := 5)).1 ?_
  refine range_law2 (m := 3) (gf := 37) (lb := #[.pointer (some ⟨X, 0, none⟩)]) (V := AllV R) (N := (allF R).length) (Pq := allP X A13) 100 101 100 23 ?_ ?_ ?_ ?_ ?_ ?_
    (fun k W' => LI w13 w1 (w11.heap.size + 1) w11.heap.size rs R k W')
    (fun c k W' => False) ?_ ?_ ?_ ?_ ?_ ?_ ?_ ?_
  · rfl
  · exact enters_of Try.func37 (by kernel_rfl) rfl
  · exact hfit
  · exact fun k W0 W1 vals h => allV_size h
  · exact fun k W0 A B vals h hz hc => allV_book h hz hc
  · exact hPl
  · exact fun k A B h hb => h.below hb
  · exact fun k A B h hz hc => h.book hz hc (by omega) (by omega) (by omega) hsl
  · exact fun c k A B h hz hc => h
  · exact hI0
  · intro l k W0 W' vals K hv hK
    obtain ⟨A', n', c', rfl, hn', ho⟩ := hv
    simp only [actOf, get0, get1, List.setIfInBounds_toArray, List.set_cons_succ, List.set_cons_zero] at hK
    gi_wp2
    exact hK
  · rintro l k W0 W' vals hk hz hIW hc - hv
    obtain ⟨A', n', c', rfl, hn', ho⟩ := hv
    simp only [actOf, get0, get1, List.setIfInBounds_toArray, List.set_cons_succ, List.set_cons_zero]
    rw [hF2] at hk
    obtain ⟨Ak, ck, ps, hL0, h1, h2, h3, hB0⟩ := hIW
    have hpp : ∀ r ∈ ps.reverse ++ rs, ∀ q, blkO r.A = some q → ¬ bookF w13 q := fun r hr q e e2 => by
      rcases List.mem_append.1 hr with hr | hr
      · have := h2.out r (List.mem_reverse.1 hr) q e
        rcases e2 with e2 | e2 <;> omega
      · have := hsl r hr q e
        rcases e2 with e2 | e2 <;> omega
    have hL := hL0.chg hc (fun e => by rcases e with e | e <;> omega) (fun q e e2 => by rcases h3.out q e with h | h <;> rcases e2 with e2 | e2 <;> omega) hpp
    have hB := chgBook_below hB0 hc (by omega) hB0.size
    have hba := below_alloc W' (.cells #[.slice A' n' c'] 22)
    have hsa := hL0.sep.add_chg (hc.then_ hba) hpp hB0.size (own_below ho hba)
    have hLa := hL.below hba
    have hR9 := rdc_block (heap_alloc_new W' (.cells #[.slice A' n' c'] 22))
    have hBa := below_then hB hba hB.size
    have eb : W'.cell? ⟨w11.heap.size + 1, 0, none⟩ = some (.slice Ak k ck) := hL.box.cell 0
    have hqr : ∀ q, blkO A' = some q → w13.heap.size + 2 ≤ q := fun q e => Nat.le_trans hz (own_base ho q (by rw [ownBlock_slice]; exact e))
    have hrow := hLa.row
    have hbox := hLa.box
    gi_wp2_with (gi_at_builtin; (refine wpl_append_in rfl _ _ 51 rfl w1.heap.size 22 _ 1 24 Try.underlying51 info_row9 rfl (by decide) (.slice Ak k ck) k _ rfl hrow _ 1 1 [.slice A' n' c'] rfl hR9 (by simp [Value.oneCell']) (by decide) (by decide) (by omega) hBa.size ?_); intro A6 c6 w6 ho6 hg6 hne6 hnn6; clear hnn6; have hb6 := hbox.grown hg6 (own_not_blk4 hrow hbox (by decide)); have fb6 := hb6.frozen 0; have e6 : w6.cell? ⟨w11.heap.size + 1, 0, none⟩ = some (.slice Ak k ck) := hb6.cell 0)
    exact LI.next hL hB h1 h2 h3 hba hsa ho6 hg6 hne6 rfl hqr (Nat.le_trans hz hc.size) (by omega) (by omega) (by omega) hPq
  · rintro W' hz hIW hK
    rw [hF2] at hIW
    obtain ⟨g2, c2', P0, k0, P1, k1, hkp, hBW⟩ := hIW.kept HFA.out HFB.out
    rw [← HRS.out, HLA.out, HLB.out] at hkp
    have F0 : Fin W' w1 _ _ _ _ _ _ w13.heap.size := ⟨hkp, hK, hBW⟩
    have hbm := (F0.bytes 5 rfl (by omega)).take (n + 9 + (m + 9)) (by omega)
    rw [List.take_left' hRl.out] at hbm
    clear hkp hK hBW hIW hI0 hPq hfit hPl hsl ha13 hb13 b13 hfn hF2 hC13
    go_wp2_with fail
    refine (fcount_any _ _ _ _ _ hbm (by omega)).mono ?_
    rintro e v1 ⟨rfl, q1⟩
    have F1 := F0.below q1
    have eb1 : v1.cell? ⟨w11.heap.size + 1, 0, none⟩ = _ := F1.kept.box.cell 0
    simp at eb1
    clear F0 hbm q1
    go_wp2_with fail
    refine (F1.same_any 9 8 rfl rfl (by omega) (by omega)).mono ?_
    rintro e v2 ⟨rfl, rfl⟩
    go_wp2_with fail
    refine (F1.same_any 5 4 rfl rfl (by omega) (by omega)).mono ?_
    rintro e v2 ⟨rfl, rfl⟩
    have ha1 := ha.below (below_then hB1 F1.low hB1.size)
    go_wp2_with fail
    refine (refFrame_any _ _ _ _ _ ha1 hn).mono ?_
    rintro e v3 ⟨D3, d3, rfl, p3, q3⟩
    have F3 := F1.add q3 p3
    have ha3 := ha1.below q3
    have hb3 := hb.below (below_then hB1 F3.low hB1.size)
    have eb3 : v3.cell? ⟨w11.heap.size + 1, 0, none⟩ = _ := F3.kept.box.cell 0
    simp at eb3
    have e30 := F3.kept.c0
    have e31 := F3.kept.c1
    clear F1 eb1 ha1 p3 q3
    go_wp2_with fail
    refine (F3.same_any 8 0 rfl rfl (by omega) (by omega)).mono ?_
    rintro e v4 ⟨rfl, rfl⟩
    go_wp2_with fail
    refine (F3.same_any 7 0 rfl rfl (by omega) (by omega)).mono ?_
    rintro e v4 ⟨rfl, rfl⟩
    go_wp2_with fail
    refine (same_self _ _ _ _ _ _ _ _ (F3.bytes 4 rfl (by omega)) ha3).mono ?_
    rintro e v4 ⟨rfl, rfl⟩
    go_wp2_with fail
    refine (same_self _ _ _ _ _ _ _ _ (F3.bytes 3 rfl (by omega)) hb3).mono ?_
    rintro e v4 ⟨rfl, rfl⟩
    go_wp2_with fail
    refine (same_self _ _ _ _ _ _ _ _ (F3.bytes 2 rfl (by omega)) ha3).mono ?_
    rintro e v4 ⟨rfl, rfl⟩
    go_wp2_with fail
    refine (same_self _ _ _ _ _ _ _ _ (F3.bytes 1 rfl (by omega)) hb3).mono ?_
    rintro e v4 ⟨rfl, rfl⟩
    go_wp2_with fail
    clear eb3 e30 e31 ha3 hb3
    refine (F3.fill_any 8 rfl 1 1 rfl (by omega)).mono ?_
    rintro e v4 ⟨rfl, F4⟩
    clear F3
    go_wp2_with fail
    refine (F4.fill_any 7 rfl 2 2 rfl (by omega)).mono ?_
    rintro e v5 ⟨rfl, F5⟩
    clear F4
    go_wp2_with fail
    refine (F5.fill_any 4 rfl 3 3 rfl (by omega)).mono ?_
    rintro e v6 ⟨rfl, F6⟩
    clear F5
    go_wp2_with fail
    refine (F6.fill_any 3 rfl 4 4 rfl (by omega)).mono ?_
    rintro e v7 ⟨rfl, F7⟩
    clear F6
    have eb7 : v7.cell? ⟨w11.heap.size + 1, 0, none⟩ = _ := F7.kept.box.cell 0
    simp at eb7
    have e07 := F7.kept.c0
    have e17 := F7.kept.c1
    go_wp2_with fail
    refine (F7.fill_any 2 rfl 5 5 rfl (by omega)).mono ?_
    rintro e v8 ⟨rfl, F8⟩
    clear F7 eb7 e07 e17
    have eb8 : v8.cell? ⟨w11.heap.size + 1, 0, none⟩ = _ := F8.kept.box.cell 0
    simp at eb8
    have e08 := F8.kept.c0
    have e18 := F8.kept.c1
    go_wp2_with fail
    refine (F8.fill_any 1 rfl 6 6 rfl (by omega)).mono ?_
    rintro e v9 ⟨rfl, F9⟩
    clear F8 eb8 e08 e18
    go_wp2_with fail
    refine (F9.grown_any 8 rfl 101 101 rfl (by omega)).mono ?_
    rintro e v10 ⟨G1, g1, rfl, F10⟩
    clear F9
    go_wp2_with fail
    refine (F10.grown_any 7 rfl 102 102 rfl (by omega)).mono ?_
    rintro e v11 ⟨G2, g2, rfl, F11⟩
    clear F10
    go_wp2_with fail
    refine (F11.grown_any 4 rfl 103 103 rfl (by omega)).mono ?_
    rintro e v12 ⟨G3, g3, rfl, F12⟩
    clear F11
    go_wp2_with fail
    refine (F12.grown_any 3 rfl 104 104 rfl (by omega)).mono ?_
    rintro e v13 ⟨G4, g4, rfl, F13⟩
    clear F12
    have eb13 : v13.cell? ⟨w11.heap.size + 1, 0, none⟩ = _ := F13.kept.box.cell 0
    simp at eb13
    have e013 := F13.kept.c0
    have e113 := F13.kept.c1
    go_wp2_with fail
    refine (F13.grown_any 2 rfl 105 105 rfl (by omega)).mono ?_
    rintro e v14 ⟨G5, g5, rfl, F14⟩
    clear F13 eb13 e013 e113
    have eb14 : v14.cell? ⟨w11.heap.size + 1, 0, none⟩ = _ := F14.kept.box.cell 0
    simp at eb14
    have e014 := F14.kept.c0
    have e114 := F14.kept.c1
    go_wp2_with fail
    refine (F14.grown_any 1 rfl 106 106 rfl (by omega)).mono ?_
    rintro e v15 ⟨G6, g6, rfl, F15⟩
    clear F14 eb14 e014 e114
    go_wp2_with fail
    refine (F15.same_any 10 9 rfl rfl (by omega) (by omega)).mono ?_
    rintro e v16 ⟨rfl, rfl⟩
    go_wp2_with fail
    refine (F15.same_any 6 5 rfl rfl (by omega) (by omega)).mono ?_
    rintro e v16 ⟨rfl, rfl⟩
    go_wp2_with fail
    refine (F15.marked_any 8 (n := n + 9) 1 101 rfl 1 101 rfl rfl (by omega) (by omega) _ (by first | rfl | omega)).mono ?_
    rintro e v16 ⟨rfl, F16⟩
    clear F15
    go_wp2_with fail
    refine (F16.marked_any 7 (n := n + 9) 2 102 rfl 2 102 rfl rfl (by omega) (by omega) _ (by first | rfl | omega)).mono ?_
    rintro e v17 ⟨rfl, F17⟩
    clear F16
    go_wp2_with fail
    refine (F17.marked_any 4 (n := n) 3 103 rfl 3 103 rfl rfl (by omega) (by omega) _ (by first | rfl | omega)).mono ?_
    rintro e v18 ⟨rfl, F18⟩
    clear F17
    go_wp2_with fail
    refine (F18.marked_any 3 (n := m) 4 104 rfl 4 104 rfl rfl (by omega) (by omega) _ (by first | rfl | omega)).mono ?_
    rintro e v19 ⟨rfl, F19⟩
    clear F18
    go_wp2_with fail
    refine (F19.marked_any 2 (n := n) 5 105 rfl 5 105 rfl rfl (by omega) (by omega) _ (by first | rfl | omega)).mono ?_
    rintro e v20 ⟨rfl, F20⟩
    clear F19
    go_wp2_with fail
    refine (F20.marked_any 1 (n := m) 6 106 rfl 6 106 rfl rfl (by omega) (by omega) _ (by first | rfl | omega)).mono ?_
    rintro e v21 ⟨rfl, F21⟩
    clear F20
    go_wp2_with fail
    exact leaves_tmp1 rfl rfl (below_then hB1 F21.low hB1.size) (by have := hB1.size; omega) F21.dfr
  · intro c k W' hk hz h hK
    exact h.elim
end Go.Proofs.Ytjgiiolamaimnaa
