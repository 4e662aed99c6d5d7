/- FrameAll, walked: where the bytes are few. -/
import Derived.Test.YtjgiiolamaimnaaWhenW
import Derived.Test.YtjgiiolamaimnaaIter2
namespace Go.Proofs.Ytjgiiolamaimnaa
open Go.RowKit Go.Shelf
set_option linter.unusedVariables false
set_option linter.unusedSimpArgs false
attribute [local go_sem] Oper.semAt_some
/-- How many rounds there are: all, or as many as leave says. -/
def Most (leave : Int) (N M : Nat) : Prop := (M = N ∧ ∀ j : Nat, 1 ≤ j → j ≤ N → (j : Int) ≠ leave) ∨ ((M : Int) = leave ∧ 1 ≤ M ∧ M ≤ N)
set_option maxRecDepth 100000 in
set_option maxHeartbeats 3200000 in
theorem frameAll_any (A : Option Addr) (n c : Nat) (b : List UInt8) (leave : Int) (l0 : -9223372036854775808 ≤ leave) (l1 : leave ≤ 9223372036854775807) (w : World) (hb : Bytes w A n b) (hn : n ≤ 1099511627776) :
    Calls Try.prog 10 #[.slice A n c, .int .i64 leave] w fun e w' => e = .returned (.bool true) ∧ Below w.heap.size w w' := by
  have hlen := hb.1
  have hNN := (allF_spec b _ (Nat.le_refl _))
  have hN0 : (allF b).length ≤ n := by omega
  have HL := Lib.hid hN0
  have HLEN := Lib.hid hlen
  clear hNN hN0 hlen
  refine (callsIn_wide (n := 5)).1 ?_
  refine callsIn_of_wp_marks Try.func10 rfl trivial ?_ rfl
  simp only [Try.ntmps10, List.size_toArray, List.length_cons, List.length_nil, Nat.reduceAdd, Nat.reduceSub, Array.replicate_succ, Array.replicate_zero, List.push_toArray, List.append_toArray, List.nil_append, List.cons_append]
  have hbl := below_alloc w (.cells #[.int .i64 leave] 3)
  have hba := below_then hbl (below_alloc (w.alloc (.cells #[.int .i64 leave] 3)) (.cells #[.bool false] 4)) hbl.size
  have hV : Blk ((w.alloc (.cells #[.int .i64 leave] 3)).alloc (.cells #[.bool false] 4)) w.heap.size #[.int .i64 leave] 3 := (Blk.fresh w #[.int .i64 leave] 3).keep (below_alloc _ _)
  have hR := Blk.fresh (w.alloc (.cells #[.int .i64 leave] 3)) #[.bool false] 4
  rw [World.size_alloc] at hR
  gi_wp2_with fail
  refine ⟨trivial, callsIn_wide.2 ((head_any _).mono ?_)⟩
  rintro e w1 ⟨rfl, hb1⟩
  have hR1 := hR.keep hb1
  have hV1 := hV.keep hb1
  have hB1 := below_then hba hb1 hba.size
  gi_wp2_with fail
  refine ⟨trivial, callsIn_wide.2 ((copied_any _ _ _ _ _ (hb.below hB1) (by omega)).mono ?_)⟩
  rintro e w2 ⟨A2, c2, rfl, ho2, hb2, -⟩
  have hB2 := below_then hB1 hb2 hB1.size
  gi_wp2_with fail
  refine ⟨trivial, callsIn_wide.2 ((refAll_any _ _ _ _ _ (own_bytes' ho2 (by omega)) (own_cap4 ho2) hn).mono ?_)⟩
  rintro e w3 ⟨A3, c3, xs, rfl, hT, hb3⟩
  have hB3 := below_then hB2 hb3 hB2.size
  have hba4 := below_alloc w3 (.cells #[.slice A3 (allF b).length c3] 41)
  have hO4 := Blk.fresh w3 #[.slice A3 (allF b).length c3] 41
  have hB4 := below_then hB3 hba4 hB3.size
  have hT4 := hT.below hba4
  have hR4 := ((hR1.keep hb2).keep hb3).keep hba4
  have hV4 := ((hV1.keep hb2).keep hb3).keep hba4
  have hbw4 := hb.below hB4
  clear hT hR hR1 hV hV1 ho2 hb1 hb2 hb3 hba hba4 hB1 hB2 hB3 hbl
  gi_wp2_with fail
  generalize hw4 : w3.alloc (.cells #[.slice A3 (allF b).length c3] 41) = w4 at *
  refine ⟨trivial, callsIn_wide.2 ((copied_any _ _ _ _ _ hbw4 (by omega)).mono ?_)⟩
  rintro e w5 ⟨A5, c5, rfl, ho5, hb5, -⟩
  have h55 := own_bytes' ho5 (by omega)
  gi_wp2_with fail
  refine ⟨trivial, callsIn_wide.2 ((fall_any _ _ _ _ _ h55 (by omega)).mono ?_)⟩
  rintro e w6 ⟨X, A6, c6, rfl, hAll, hb6⟩
  have hB46 : Below w4.heap.size w4 w6 := below_then hb5 hb6 hb5.size
  have hA6 : ∀ q, allP X A6 q → w5.heap.size ≤ q ∧ q < w6.heap.size := fun q e => by
    refine ⟨?_, hAll.lt q e⟩
    rcases e with e | e
    · rw [e]; exact hAll.lo
    · exact own_base hAll.own q (by rw [ownBlock_slice]; exact e)
  have hfn := func_nil X w6
  have hba8 := below_alloc w6 (.cells #[.int .i64 0] 3)
  have hN8 := Blk.fresh w6 #[.int .i64 0] 3
  have hC8 := below_then hB46 hba8 hB46.size
  have hA8 := AllAt.chg hAll (chg_below hba8 (fun _ => False)) (fun _ _ e => e)
  have hs8 : (w6.alloc (.cells #[.int .i64 0] 3)).heap.size = w6.heap.size + 1 := by simp
  have hPl := hA8.lt
  have h46 := hB46.size
  clear hw4 ho5 h55 hbw4 hb5 hb6 hba8 hAll hB46
  gi_wp2_with fail
  generalize hw8 : w6.alloc (.cells #[.int .i64 0] 3) = w8 at *
  have hs48 : w4.heap.size ≤ w8.heap.size := hC8.size
  have hw68 : w6.heap.size < w8.heap.size := by omega
  have hPlo : ∀ q, allP X A6 q → q < w6.heap.size := fun q e => (hA6 q e).2
  clear hw8 hs8 hA6
  rename_i K HK
  generalize ha : (Act.mk _ _) = a
  have tail : ∀ (W : World) (M : Nat), w8.heap.size + 2 ≤ W.heap.size → Blk W w6.heap.size #[.int .i64 (M : Nat)] 3 → Chg (fun q => q = w6.heap.size) w8 W → W.heap[w8.heap.size]? = some (.deferred (some [])) → Most leave (allF b).length M → K { a with defers := { target := .collected w8.heap.size, args := #[] } :: a.defers } W := by
    intro W M hz hN hCW hK hM
    subst ha
    refine HK _ _ ?_
    have hBW : Below w4.heap.size w4 W := hC8.trans (hCW.below hs48 (fun q e => by omega))
    have eO : W.cell? ⟨w3.heap.size, 0, none⟩ = some (.slice A3 (allF b).length c3) := (hO4.below hBW hO4.lt).cell 0
    have eV : W.cell? ⟨w.heap.size, 0, none⟩ = some (.int .i64 leave) := (hV4.below hBW hV4.lt).cell 0
    have eN : W.cell? ⟨w6.heap.size, 0, none⟩ = some (.int .i64 (M : Nat)) := hN.cell 0
    have fN := hN.frozen 0
    have hN9 := hN.set 0 (.int .i64 0)
    have hcs9 := chg_set W w6.heap.size 0 (.int .i64 0)
    have hC9 := hCW.trans hcs9 (fun q e => .inl e)
    have hK9 : (W.setCell ⟨w6.heap.size, 0, none⟩ (.int .i64 0)).heap[w8.heap.size]? = some (.deferred (some [])) := (heap_setCell_other _ _ _ _ (by show w8.heap.size ≠ w6.heap.size; omega)).trans hK
    have hs9 : (W.setCell ⟨w6.heap.size, 0, none⟩ (.int .i64 0)).heap.size = W.heap.size := by simp [World.setCell]
    have hA9 := AllAt.chg hA8 hC9 (fun q e e2 => by have := hPlo q e; omega)
    have h3 : (leave < 1 ∧ M = (allF b).length) ∨ (1 ≤ leave ∧ leave < ((allF b).length : Int) ∧ (M : Int) = leave) ∨ (1 ≤ leave ∧ ¬ leave < ((allF b).length : Int) ∧ M = (allF b).length) := by
      rcases hM with ⟨rfl, hj⟩ | ⟨h1, h2, h3⟩
      · by_cases g1 : leave < 1
        · exact .inl ⟨g1, rfl⟩
        · by_cases g2 : leave < ((allF b).length : Int)
          · exact absurd (by omega : ((leave.toNat : Nat) : Int) = leave) (hj leave.toNat (by omega) (by omega))
          · exact .inr (.inr ⟨by omega, g2, rfl⟩)
      · by_cases g2 : leave < ((allF b).length : Int)
        · exact .inr (.inl ⟨by omega, g2, h1⟩)
        · exact .inr (.inr ⟨by omega, g2, by omega⟩)
    have hkl : ((allF b).length : Int) ≤ (n : Int) := by have := HL.out; omega
    clear hM hN
    have HH := Lib.hid (And.intro hN9 (And.intro hC9 hK9))
    clear hN9 hC9 hK9 hcs9
    rcases h3 with ⟨g1, rfl⟩ | ⟨g1, g2, g3⟩ | ⟨g1, g2, rfl⟩
    all_goals gi_wp2
    all_goals generalize hw9 : W.setCell ⟨w6.heap.size, 0, none⟩ (.int .i64 0) = w9 at *
    all_goals obtain ⟨hN9, hC9, hK9⟩ := HH.out
    all_goals have hP9 := hA9.lt
    all_goals have hz9 : w8.heap.size + 2 ≤ w9.heap.size := by omega
    all_goals clear HH hw9 hs9 eO eV eN fN hCW hBW hK
    all_goals
      refine range_law2 (m := 3) (gf := 37) (lb := #[.pointer (some ⟨X, 0, none⟩)]) (V := AllV b) (N := (allF b).length) (Pq := allP X A6) 68 69 11 12 ?_ ?_ ?_ ?_ ?_ ?_
        (fun k W => Blk W w6.heap.size #[.int .i64 (k : Nat)] 3 ∧ Chg (fun q => q = w6.heap.size) w8 W ∧ W.heap[w8.heap.size]? = some (.deferred (some [])))
        (fun c k W => False) ?_ ?_ ?_ ?_ ?_ ?_ ?_ ?_
      · rfl
      · exact enters_of Try.func37 (by kernel_rfl) rfl
      · exact allIt w9 _ X A6 n c6 b 3 hA9 (by omega)
      · exact fun k W0 W1 vals h => allV_size h
      · exact fun k W0 A B vals h hz hc => allV_book h hz hc
      · exact hP9
      · exact fun k A B h hb => ⟨h.1.keep hb, h.2.1.then_ hb, (hb.block _ (Array.getElem?_eq_some_iff.1 h.2.2).1).trans h.2.2⟩
      · exact fun k A B h hz hc => ⟨chgBook_blk h.1 hc (by omega), h.2.1.trans hc (fun q e => .inr (by rcases e with e | e <;> omega)), (hc.block _ (by omega) (fun e => by rcases e with e | e <;> omega)).trans h.2.2⟩
      · exact fun c k A B h hz hc => h
      · exact ⟨hN9, hC9, hK9⟩
      · intro l k W0 W vals K hv hK
        obtain ⟨A', n', c', rfl, hn', ho⟩ := hv
        simp only [actOf, get0, get1, List.setIfInBounds_toArray, List.set_cons_succ, List.set_cons_zero] at hK
        gi_wp2
        exact hK
      · rintro l k W0 W vals hk hz hI0 hc ⟨hN, hCW, hKW⟩ hv
        obtain ⟨A', n', c', rfl, hn', ho⟩ := hv
        simp only [actOf, get0, get1, List.setIfInBounds_toArray, List.set_cons_succ, List.set_cons_zero]
        have hBW : Below w4.heap.size w4 W := hC8.trans (hCW.below hs48 (fun q e => by omega))
        have hTW := hT4.below hBW
        obtain ⟨g3, rfl, hg3, hc3, e1, e2⟩ := hTW.at_ hk
        have h2 := (hTW.each k hk).2.2
        rw [(hTW.each k hk).2.1] at h2
        have hpl := allF_len hk
        have hln := HLEN.out
        have h2 := own_bytes' h2 (by omega)
        have hn2 := hn'.out
        have h1 := own_bytes' ho (by have := h2.2.1; omega)
        have eO : W.cell? ⟨w3.heap.size, 0, none⟩ = some (.slice (some ⟨g3, 0, none⟩) (allF b).length c3) := (hO4.below hBW hO4.lt).cell 0
        have eN : W.cell? ⟨w6.heap.size, 0, none⟩ = some (.int .i64 (k : Nat)) := hN.cell 0
        have fN := hN.frozen 0
        have hkd : decide ((allF b).length ≤ k) = false := decide_eq_false (by omega)
        have hki : (k : Int) < ((allF b).length : Int) := by omega
        have hN' := hN.set 0 (.int .i64 ((k : Int) + 1))
        have hcs := chg_set W w6.heap.size 0 (.int .i64 ((k : Int) + 1))
        have hcw := hCW.trans hcs (fun q e => .inl e)
        have hzW := Nat.le_trans hz hc.size
        have hkp := keep2_of (w := w9) hcs hzW (by omega) (by omega)
        have hKW' := (hcs.block w8.heap.size (by omega) (by omega)).trans hKW
        have hcp : Chg (fun q => ¬ allP X A6 q) W (W.setCell ⟨w6.heap.size, 0, none⟩ (.int .i64 ((k : Int) + 1))) := hcs.mono (fun q e e2 => by have := hPlo q e2; omega)
        have HH := Lib.hid (And.intro hN' (And.intro hcw (And.intro hkp (And.intro hcp hKW'))))
        generalize hpk : ((allF b).getD k (0, [])).2 = pk at *
        obtain ⟨P3, hP3⟩ : ∃ P3, (xs.getD k fz).2.1 = P3 := ⟨_, rfl⟩
        obtain ⟨C3, hC3⟩ : ∃ C3, (xs.getD k fz).2.2.2 = C3 := ⟨_, rfl⟩
        rw [hP3, hC3] at e2
        rw [hP3] at h2
        rw [hn2] at h1
        clear hpk hN' hcs hTW hI0 hc ho hP3 hC3 hcw hkp hcp hKW' hKW
        gi_wp2
        refine ⟨trivial, ?_⟩
        with_reducible refine CallsIn.inRound l (callsIn_wide.2 ((same_any _ _ _ _ _ _ _ _ _ h1 h2).mono ?_))
        rintro e w10 ⟨rfl, rfl⟩
        gi_wp2
        obtain ⟨hN', hcw, hkp, hcp, hKW'⟩ := HH.out
        exact ⟨hkp, hcp, hN', hcw, hKW'⟩
      · rintro W hz ⟨hN, hCW, hKW⟩ hK
        have hBW : Below w4.heap.size w4 W := hC8.trans (hCW.below hs48 (fun q e => by omega))
        have eO : W.cell? ⟨w3.heap.size, 0, none⟩ = some (.slice A3 (allF b).length c3) := (hO4.below hBW hO4.lt).cell 0
        have hRl4 := hR4.lt
        have hRW := hR4.below hBW hR4.lt
        have eR : W.cell? ⟨w.heap.size + 1, 0, none⟩ = some (.bool false) := hRW.cell 0
        have fR := hRW.frozen 0
        have eN : W.cell? ⟨w6.heap.size, 0, none⟩ = some (.int .i64 ((allF b).length : Nat)) := hN.cell 0
        have HRW := Lib.hid hRW
        clear hRW
        gi_wp2
        have hRW := HRW.out.set 0 (.bool true)
        have hKa : (W.setCell ⟨w.heap.size + 1, 0, none⟩ (.bool true)).heap[w9.heap.size]? = some (.deferred (some [])) := (heap_setCell_other _ _ _ _ (by show w9.heap.size ≠ w.heap.size + 1; omega)).trans hK
        have hKb : ((W.setCell ⟨w.heap.size + 1, 0, none⟩ (.bool true)).putObj w9.heap.size (.deferred none)).heap[w8.heap.size]? = some (.deferred (some [])) := (World.putObj_heap_other (by omega)).trans ((heap_setCell_other _ _ _ _ (by show w8.heap.size ≠ w.heap.size + 1; omega)).trans hKW)
        refine ⟨by simp, .inl ⟨_, _, rfl, run_takeDeferred (w := W.setCell ⟨w.heap.size + 1, 0, none⟩ (.bool true)) hKa, ⟨by simp, .inl ⟨_, _, rfl, run_takeDeferred (w := (W.setCell ⟨w.heap.size + 1, 0, none⟩ (.bool true)).putObj w9.heap.size (.deferred none)) hKb, ?_⟩⟩⟩⟩
        have c1 := chg_put (fun q => q = w9.heap.size) (W.setCell ⟨w.heap.size + 1, 0, none⟩ (.bool true)) _ (.deferred none) rfl
        have c2 := chg_put (fun q => q = w8.heap.size) ((W.setCell ⟨w.heap.size + 1, 0, none⟩ (.bool true)).putObj w9.heap.size (.deferred none)) _ (.deferred none) rfl
        have hR3 := (hRW.chg c1 (by omega)).chg c2 (by omega)
        refine ⟨.bool true, results_plain rfl _ _ (w.heap.size + 1) rfl (hR3.cell 0) rfl Try.underlying4, rfl, ?_⟩
        have hz : w.heap.size ≤ (W.setCell ⟨w.heap.size + 1, 0, none⟩ (.bool true)).heap.size := Nat.le_trans (by omega : w.heap.size ≤ W.heap.size) (chg_set W (w.heap.size + 1) 0 (.bool true)).size
        exact (((hB4.trans (hBW.mono hB4.size)).setCell (p := ⟨w.heap.size + 1, 0, none⟩) (Nat.le_succ _) (.bool true)).trans (c1.below hz (fun q e => by omega))).trans (c2.below (Nat.le_trans hz c1.size) (fun q e => by omega))
      · intro c k W hk hz h hK
        exact h.elim
  refine range_law2 (m := 3) (gf := 37) (lb := #[.pointer (some ⟨X, 0, none⟩)]) 24 25 8 9 (by subst ha; rfl) (enters_of Try.func37 (by kernel_rfl) rfl) (allIt w8 _ X A6 n c6 b 3 hA8 (by omega)) (fun k W0 W1 vals h => allV_size h)
    (fun k W0 A B vals h hz hc => allV_book h hz hc) hPl
    (fun k W => Blk W w6.heap.size #[.int .i64 (k : Nat)] 3 ∧ Chg (fun q => q = w6.heap.size) w8 W ∧ Hid (∀ j : Nat, 1 ≤ j → j ≤ k → (j : Int) ≠ leave))
    (fun c k W => c = .exit 0 ∧ Blk W w6.heap.size #[.int .i64 (k : Nat)] 3 ∧ Chg (fun q => q = w6.heap.size) w8 W ∧ Hid ((k : Int) = leave ∧ 1 ≤ k))
    (fun k A B h hb => ⟨h.1.keep hb, h.2.1.then_ hb, h.2.2⟩)
    (fun k A B h hz hc => ⟨chgBook_blk h.1 hc hw68, h.2.1.trans hc (fun q e => .inr (by rcases e with e | e <;> omega)), h.2.2⟩)
    (fun c k A B h hz hc => ⟨h.1, chgBook_blk h.2.1 hc hw68, h.2.2.1.trans hc (fun q e => .inr (by rcases e with e | e <;> omega)), h.2.2.2⟩) ⟨hN8, Chg.refl _ _, Lib.hid (fun j h1 h2 => by omega)⟩ ?assign ?body ?done ?stop
  case assign =>
    intro l k W0 W vals K hv hK
    obtain ⟨A', n', c', rfl, hn', ho⟩ := hv
    subst ha
    simp only [actOf, get0, get1, List.setIfInBounds_toArray, List.set_cons_succ, List.set_cons_zero] at hK
    gi_wp2
    exact hK
  case body =>
    rintro l k W0 W vals hk hz hI0 hc ⟨hN, hCW, hjl⟩ hv
    obtain ⟨A', n', c', rfl, hn', ho⟩ := hv
    subst ha
    simp only [actOf, get0, get1, List.setIfInBounds_toArray, List.set_cons_succ, List.set_cons_zero]
    have hBW : Below w4.heap.size w4 W := hC8.trans (hCW.below hs48 (fun q e => by omega))
    have hTW := hT4.below hBW
    obtain ⟨g3, rfl, hg3, hc3, e1, e2⟩ := hTW.at_ hk
    have h2 := (hTW.each k hk).2.2
    rw [(hTW.each k hk).2.1] at h2
    have hpl := allF_len hk
    have hln := HLEN.out
    have h2 := own_bytes' h2 (by omega)
    have hn2 := hn'.out
    have h1 := own_bytes' ho (by have := h2.2.1; omega)
    have eO : W.cell? ⟨w3.heap.size, 0, none⟩ = some (.slice (some ⟨g3, 0, none⟩) (allF b).length c3) := (hO4.below hBW hO4.lt).cell 0
    have eV : W.cell? ⟨w.heap.size, 0, none⟩ = some (.int .i64 leave) := (hV4.below hBW hV4.lt).cell 0
    have eN : W.cell? ⟨w6.heap.size, 0, none⟩ = some (.int .i64 (k : Nat)) := hN.cell 0
    have fN := hN.frozen 0
    have hkd : decide ((allF b).length ≤ k) = false := decide_eq_false (by omega)
    have hki : (k : Int) < ((allF b).length : Int) := by omega
    have hkl : ((allF b).length : Int) ≤ (n : Int) := by have := HL.out; omega
    have hN' := hN.set 0 (.int .i64 ((k : Int) + 1))
    have hcs := chg_set W w6.heap.size 0 (.int .i64 ((k : Int) + 1))
    have hcw := hCW.trans hcs (fun q e => .inl e)
    have hle : w.heap.size < w6.heap.size := by have := hV4.lt; omega
    have eV' : (W.setCell ⟨w6.heap.size, 0, none⟩ (.int .i64 ((k : Int) + 1))).cell? ⟨w.heap.size, 0, none⟩ = some (.int .i64 leave) := ((hV4.below hBW hV4.lt).chg hcs (by omega)).cell 0
    have eN' : (W.setCell ⟨w6.heap.size, 0, none⟩ (.int .i64 ((k : Int) + 1))).cell? ⟨w6.heap.size, 0, none⟩ = some (.int .i64 ((k : Int) + 1)) := hN'.cell 0
    have hzW := Nat.le_trans hz hc.size
    have hkp := keep2_of (w := w8) hcs hzW (by omega) (by omega)
    have hcp : Chg (fun q => ¬ allP X A6 q) W (W.setCell ⟨w6.heap.size, 0, none⟩ (.int .i64 ((k : Int) + 1))) := hcs.mono (fun q e e2 => by have := hPlo q e2; omega)
    have HH := Lib.hid (And.intro hN' (And.intro hcw (And.intro hkp hcp)))
    generalize hpk : ((allF b).getD k (0, [])).2 = pk at *
    obtain ⟨P3, hP3⟩ : ∃ P3, (xs.getD k fz).2.1 = P3 := ⟨_, rfl⟩
    obtain ⟨C3, hC3⟩ : ∃ C3, (xs.getD k fz).2.2.2 = C3 := ⟨_, rfl⟩
    rw [hP3, hC3] at e2
    rw [hP3] at h2
    rw [hn2] at h1
    clear hpk hN' hcs hTW hI0 hc ho hP3 hC3 hcw hkp hcp
    gi_wp2
    refine ⟨trivial, ?_⟩
    with_reducible refine CallsIn.inRound l (callsIn_wide.2 ((same_any _ _ _ _ _ _ _ _ _ h1 h2).mono ?_))
    rintro e w9 ⟨rfl, rfl⟩
    by_cases hlv : (k : Int) + 1 = leave
    · subst hlv
      gi_wp2
      obtain ⟨hN', hcw, hkp, hcp⟩ := HH.out
      exact ⟨hkp, rfl, hN', hcw, Lib.hid ⟨by omega, by omega⟩⟩
    · gi_wp2
      obtain ⟨hN', hcw, hkp, hcp⟩ := HH.out
      exact ⟨hkp, hcp, hN', hcw, Lib.hid (fun j h1 h2 => by
        by_cases hj : j ≤ k
        · exact hjl.out j h1 hj
        · omega)⟩
  case done =>
    rintro W hz ⟨hN, hCW, hjl⟩ hK
    exact tail W _ hz hN hCW hK (.inl ⟨rfl, hjl.out⟩)
  case stop =>
    rintro c k W hk hz ⟨rfl, hN, hCW, hjl⟩ hK
    have h2 := hjl.out
    have ht := tail W k hz hN hCW hK (.inr ⟨h2.1, h2.2, hk⟩)
    clear hN hCW hK
    exact wpIn_exit ht
end Go.Proofs.Ytjgiiolamaimnaa
