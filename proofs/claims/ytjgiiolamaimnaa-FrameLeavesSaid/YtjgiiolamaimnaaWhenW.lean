/- FrameWhen, walked: where the bytes are few. -/
import Derived.Test.YtjgiiolamaimnaaRefAll
import Derived.Test.YtjgiiolamaimnaaCountF
import Derived.Test.YtjgiiolamaimnaaHead
namespace Go.Proofs.Ytjgiiolamaimnaa
open Go.RowKit Go.Shelf
set_option linter.unusedVariables false
set_option linter.unusedSimpArgs false
attribute [local go_sem] Oper.semAt_some
theorem bvals_set10 (zs : List UInt8) (k : Nat) (y : UInt8) : (bvals zs).set k (Value.int .u8 ((y.toNat : Nat) : Int)) = bvals (zs.set k y) := by
  rw [bvals, bvals, List.map_set]
theorem allF_len {b : List UInt8} {k : Nat} (hk : k < (allF b).length) : ((allF b).getD k (0, [])).2.length ≤ b.length := by
  have h := nxt_le ((allF_spec b k (Nat.le_of_lt hk)).2.2.1 hk)
  omega
theorem AllAt.chg {w w' : World} {B X : Nat} {A : Option Addr} {n c : Nat} {b : List UInt8} {F : Nat → Prop} (h : AllAt w B X A n c b) (hc : Chg F w w') (hF : ∀ q, allP X A q → ¬ F q) : AllAt w' B X A n c b :=
  ⟨h.box.chg hc (hF X (.inl rfl)), own_chg h.own hc (fun q e => hF q (.inr (by rw [← ownBlock_slice A n c]; exact e))), h.lo⟩
theorem results_plain {P : Program} {fn : Func} {p : Tmp} {ty : TypeId} {d : TypeDesc} {v : Value} (h : fn.results = #[.cell p ty]) (tmps : Array Value) (w : World) (g : Nat)
    (hp : tmps.getD p undef = .pointer (some ⟨g, 0, none⟩)) (hg : w.cell? ⟨g, 0, none⟩ = some v) (hd : (match d with | .struct _ | .array _ _ => true | _ => false) = false) (hu : P.underlying ty = some d) : (results fn tmps).run P w = .ok v w := by
  have hp' : tmps[p]?.getD undef = .pointer (some ⟨g, 0, none⟩) := by simpa using hp
  have hagg : (isAgg ty).run P w = .ok false w := by
    cases d <;> first | exact run_isAgg_plain hu rfl w | exact absurd hd (by simp)
  simp [results, h, hp', asAddr, loadVar, Sem.run_bind, hagg, Result.andThen, hg]
/-- A function value is not nil. -/
theorem func_nil (X : Nat) (w : World) : Sem.run Try.prog (binOp BinOp.eql 44 (Value.func (Fn.func 37) #[] #[Value.pointer (some ⟨X, 0, none⟩)]) Value.nilFunc) w = .ok (.bool false) w := by
  rfl
set_option maxRecDepth 100000 in
set_option maxHeartbeats 3200000 in
theorem frameWhen_any (A : Option Addr) (n c : Nat) (b : List UInt8) (fill : Int) (f0 : 0 ≤ fill) (f1 : fill ≤ 255) (w : World) (hb : Bytes w A n b) (hn : n ≤ 1099511627776) :
    Calls Try.prog 11 #[.slice A n c, .int .u8 fill] w fun e w' => e = .returned (.bool true) ∧ Below w.heap.size w w' := by
  have hlen := hb.1
  have hNN := (allF_spec b _ (Nat.le_refl _))
  have hN0 : (allF b).length ≤ n := by omega
  have HL := Lib.hid hN0
  clear hNN hN0 hlen
  refine (callsIn_wide (n := 5)).1 ?_
  refine callsIn_of_wp_marks Try.func11 rfl trivial ?_ rfl
  simp only [Try.ntmps11, List.size_toArray, List.length_cons, List.length_nil, Nat.reduceAdd, Nat.reduceSub, Array.replicate_succ, Array.replicate_zero, List.push_toArray, List.append_toArray, List.nil_append, List.cons_append]
  have hba := below_alloc w (.cells #[.bool false] 4)
  have hR := Blk.fresh w #[.bool false] 4
  gi_wp2_with fail
  refine ⟨trivial, callsIn_wide.2 ((head_any _).mono ?_)⟩
  rintro e w1 ⟨rfl, hb1⟩
  have hR1 := hR.keep hb1
  have hB1 := below_then hba hb1 hba.size
  gi_wp2_with fail
  refine ⟨trivial, callsIn_wide.2 ((copied_any _ _ _ _ _ (hb.below hB1) (by omega)).mono ?_)⟩
  rintro e w2 ⟨A2, c2, rfl, ho2, hb2, -⟩
  have hB2 := below_then hB1 hb2 hB1.size
  gi_wp2_with fail
  refine ⟨trivial, callsIn_wide.2 ((refAll_any _ _ _ _ _ (own_bytes' ho2 (by omega)) (own_cap4 ho2) hn).mono ?_)⟩
  rintro e w3 ⟨A3, c3, xs, rfl, hT, hb3⟩
  have hB3 := below_then hB2 hb3 hB2.size
  have hR3 := (hR1.keep hb2).keep hb3
  have hba4 := below_alloc w3 (.cells #[.slice A3 (allF b).length c3] 41)
  have hO4 := Blk.fresh w3 #[.slice A3 (allF b).length c3] 41
  have hB4 := below_then hB3 hba4 hB3.size
  have hT4 := hT.below hba4
  have hR4 := hR3.keep hba4
  have hbw4 := hb.below hB4
  clear hT hR hR1 hR3 ho2 hb1 hb2 hb3 hba hba4 hB1 hB2 hB3
  gi_wp2_with fail
  generalize hw4 : w3.alloc (.cells #[.slice A3 (allF b).length c3] 41) = w4 at *
  refine ⟨trivial, callsIn_wide.2 ((copied_any _ _ _ _ _ hbw4 (by omega)).mono ?_)⟩
  rintro e w5 ⟨A5, c5, rfl, ho5, hb5, -⟩
  have hB5 := below_then hB4 hb5 hB4.size
  have h55 := own_bytes' ho5 (by omega)
  gi_wp2_with fail
  refine ⟨trivial, callsIn_wide.2 ((fall_any _ _ _ _ _ h55 (by omega)).mono ?_)⟩
  rintro e w6 ⟨X, A6, c6, rfl, hAll, hb6⟩
  have hB46 : Below w4.heap.size w4 w6 := below_then hb5 hb6 hb5.size
  have ho6 := own_below ho5 hb6
  have hl5 : (bvals b).length = n := by have := ho5.1; omega
  have hA5 : ∀ q, blkO A5 = some q → w4.heap.size ≤ q ∧ q < w5.heap.size := fun q e => ho5.lt q (by rw [ownBlock_slice]; exact e)
  have hA6 : ∀ q, allP X A6 q → w5.heap.size ≤ q ∧ q < w6.heap.size := fun q e => by
    refine ⟨?_, hAll.lt q e⟩
    rcases e with e | e
    · rw [e]; exact hAll.lo
    · exact own_base hAll.own q (by rw [ownBlock_slice]; exact e)
  have hcap5 := own_cap4 ho6
  have hl6 : b.length = n := by rw [bvals_length] at hl5; exact hl5
  have HS := Lib.hid (And.intro hb5.size hb6.size)
  have hfn := func_nil X w6
  clear hw4 ho5 h55 hb5 hb6 hB5 hbw4 hl5
  gi_wp2_with fail
  gi_loopw [25] (fun i wr => ∃ k : Nat, ∃ zs : List UInt8, k ≤ n ∧ i = .int .i64 k ∧ zs.length = n ∧ wr.ownsRow w4.heap.size 5 1 (.slice A5 n c5) n (bvals zs) ∧ Chg (fun q => blkO A5 = some q) w6 wr) (fun i _ => n - (intOf i).toNat)
  case atStart => exact ⟨0, b, by omega, rfl, hl6, ho6, Chg.refl _ _⟩
  case round =>
    obtain ⟨k, zs, hk, rfl, hl, ho, hC⟩ := hrel
    by_cases hlt : k < n
    · rcases ho.2 with ⟨_, h0⟩ | ⟨g5, cap5, cur5, hv5, -⟩
      · omega
      injection hv5 with e1 e2 e3
      subst e1
      obtain ⟨y, hy⟩ : ∃ y : UInt8, fill = ((y.toNat : Nat) : Int) := ⟨UInt8.ofNat fill.toNat, by rw [UInt8.toNat_ofNat']; omega⟩
      have HY := Lib.hid hy
      have hcell : wr.cell? ⟨g5, k, none⟩ = some (.int .u8 (((zs.getD k 0).toNat : Nat) : Int)) := (ho.cellAt k (by omega)).trans (bvals_at _ _ (by omega))
      have hfr := ho.frozenAt k
      have HST := Lib.hid (ho.stored k (.int .u8 fill)).1
      have HL2 := Lib.hid hl
      have HC := Lib.hid (hC.set (g := g5) (.inl rfl) k (.int .u8 fill))
      have j0 : (0 : Int) ≤ (k : Int) := by omega
      have j1 : (k : Int) < (n : Int) := by omega
      clear hl ho hy
      gi_wp2_with fail
      go_roundw
      case rel => exact ⟨k + 1, zs.set k y, by omega, by go_num, by rw [List.length_set]; exact HL2.out, by rw [← bvals_set10, ← HY.out]; exact HST.out, HC.out⟩
      case measure => simp [intOf]; omega
    · obtain rfl : n = k := by omega
      clear hlt hk hl ho
      have hCr : Below w4.heap.size w4 wr := hB46.trans (hC.below (by have := HS.out; omega) (fun q e => (hA5 q e).1))
      have hAr := hAll.chg hC (fun q e e2 => by have := hA6 q e; have := hA5 q e2; omega)
      have hba8 := below_alloc wr (.cells #[.int .i64 0] 3)
      have hN8 := Blk.fresh wr #[.int .i64 0] 3
      have hC8 := below_then hCr hba8 hCr.size
      have hA8 := AllAt.chg hAr (chg_below hba8 (fun _ => False)) (fun _ _ e => e)
      have hs8 : (wr.alloc (.cells #[.int .i64 0] 3)).heap.size = wr.heap.size + 1 := by simp
      have hPl := hA8.lt
      gi_wp2_with fail
      generalize hw8 : wr.alloc (.cells #[.int .i64 0] 3) = w8 at *
      have hs48 : w4.heap.size ≤ w8.heap.size := hC8.size
      have hwr8 : wr.heap.size < w8.heap.size := by omega
      have hPlo : ∀ q, allP X A6 q → q < wr.heap.size := fun q e => by have := hA6 q e; have := hC.size; omega
      have hlow := hCr.size
      clear hw8 hs8 hC hCr hba8 hAr hAll HS
      refine range_law (m := 3) (gf := 37) (lb := #[.pointer (some ⟨X, 0, none⟩)]) rfl (enters_of Try.func37 (by kernel_rfl) rfl) (allIt w8 _ X A6 n c6 b 3 hA8 (by omega)) (fun k W0 W1 vals h => allV_size h)
        (fun k W0 A B vals h hz hc => allV_book h hz hc) hPl
        (fun k W => Blk W wr.heap.size #[.int .i64 (k : Nat)] 3 ∧ Below w4.heap.size w4 W) (fun _ _ _ => False)
        (fun k A B h hb => ⟨h.1.keep hb, below_then h.2 hb h.2.size⟩)
        (fun k A B h hz hc => ⟨chgBook_blk h.1 hc hwr8, chgBook_below h.2 hc hs48 (Nat.le_trans hs48 (by omega))⟩)
        (fun c k A B h _ _ => h) ⟨hN8, hC8⟩
        (fun vals => { tmps := #[.slice A n c, .int .u8 fill, undef, undef, .pointer (some ⟨w.heap.size, 0, none⟩), .pointer (some ⟨w3.heap.size, 0, none⟩), .slice A5 n c5, .func (.func 37) #[] #[.pointer (some ⟨X, 0, none⟩)], u8, .pointer (some ⟨wr.heap.size, 0, none⟩), vals.getD 0 undef, vals.getD 1 undef, .bool true, .bool false, .slice A n c, .slice A2 n c2, .slice A3 (allF b).length c3, .slice A n c, .slice A5 n c5, .slice A5 n c5, .func (.func 37) #[] #[.pointer (some ⟨X, 0, none⟩)], .func (.func 37) #[] #[.pointer (some ⟨X, 0, none⟩)], .bool false, .slice A5 n c5, .int .i64 (n : Nat), .int .i64 (n : Nat), .bool false, u27, u28, u29, u30, u31, u32, .func (.func 37) #[] #[.pointer (some ⟨X, 0, none⟩)], vals.getD 0 undef, vals.getD 1 undef, undef, undef, undef, undef, undef, undef, undef, undef, undef, undef, undef, undef, undef, undef, undef, undef, undef, undef, undef, undef, undef, undef, undef, undef, undef, undef, undef, undef, undef], defers := [] }) ?assign ?body ?done ?stop
      case assign =>
        intro l k W0 W vals K hv hK
        obtain ⟨A', n', c', rfl, hn', ho⟩ := hv
        gi_wp2
        exact hK
      case body =>
        rintro l k W0 W vals hk hz hI0 hc ⟨hN, hBW⟩ hv
        obtain ⟨A', n', c', rfl, hn', ho⟩ := hv
        simp only [get0, get1]
        have hTW := hT4.below hBW
        obtain ⟨g3, rfl, hg3, hc3, e1, e2⟩ := hTW.at_ hk
        have h2 := (hTW.each k hk).2.2
        rw [(hTW.each k hk).2.1] at h2
        have hpl := allF_len hk
        have h2 := own_bytes' h2 (by omega)
        have hn2 := hn'.out
        have h1 := own_bytes' ho (by have := h2.2.1; omega)
        have eO : W.cell? ⟨w3.heap.size, 0, none⟩ = some (.slice (some ⟨g3, 0, none⟩) (allF b).length c3) := (hO4.below hBW hO4.lt).cell 0
        have eN : W.cell? ⟨wr.heap.size, 0, none⟩ = some (.int .i64 (k : Nat)) := hN.cell 0
        have fN := hN.frozen 0
        have hkd : decide ((allF b).length ≤ k) = false := decide_eq_false (by omega)
        have hki : (k : Int) < ((allF b).length : Int) := by omega
        have hkl : ((allF b).length : Int) ≤ (n : Int) := by have := HL.out; omega
        have hN' := hN.set 0 (.int .i64 ((k : Int) + 1))
        have hcs := chg_set W wr.heap.size 0 (.int .i64 ((k : Int) + 1))
        have HH := Lib.hid (And.intro hN' hcs)
        have hzW := Nat.le_trans hz hc.size
        generalize hpk : ((allF b).getD k (0, [])).2 = pk at *
        obtain ⟨P3, hP3⟩ : ∃ P3, (xs.getD k fz).2.1 = P3 := ⟨_, rfl⟩
        obtain ⟨C3, hC3⟩ : ∃ C3, (xs.getD k fz).2.2.2 = C3 := ⟨_, rfl⟩
        rw [hP3, hC3] at e2
        rw [hP3] at h2
        rw [hn2] at h1
        clear hpk hN' hcs hTW hI0 hc ho hP3 hC3
        gi_wp2
        refine ⟨trivial, ?_⟩
        with_reducible refine CallsIn.inRound l (callsIn_wide.2 ((same_any _ _ _ _ _ _ _ _ _ h1 h2).mono ?_))
        rintro e w9 ⟨rfl, rfl⟩
        gi_wp2
        obtain ⟨hN', hcs⟩ := HH.out
        refine ⟨keep2_of hcs hzW (by omega) (by omega), hcs.mono (fun q e e2 => ?_), hN', hBW.trans (hcs.below hBW.size (fun q e => ?_))⟩
        · have := hPlo q e2; omega
        · have := hlow; omega
      case done =>
        rintro W hz ⟨hN, hBW⟩ hK
        have eO : W.cell? ⟨w3.heap.size, 0, none⟩ = some (.slice A3 (allF b).length c3) := (hO4.below hBW hO4.lt).cell 0
        have hRW := hR4.below hBW hR4.lt
        have eR : W.cell? ⟨w.heap.size, 0, none⟩ = some (.bool false) := hRW.cell 0
        have fR := hRW.frozen 0
        have eN : W.cell? ⟨wr.heap.size, 0, none⟩ = some (.int .i64 ((allF b).length : Nat)) := hN.cell 0
        have HRW := Lib.hid hRW
        clear hRW
        gi_wp2
        have hRl4 := hR4.lt
        have hK' : (W.setCell ⟨w.heap.size, 0, none⟩ (.bool true)).heap[w8.heap.size]? = some (.deferred (some [])) := (heap_setCell_other _ _ _ _ (by show w8.heap.size ≠ w.heap.size; omega)).trans hK
        have hRW := HRW.out.set 0 (.bool true)
        refine ⟨by simp, .inl ⟨_, _, rfl, run_takeDeferred (w := W.setCell ⟨w.heap.size, 0, none⟩ (.bool true)) hK', ?_⟩⟩
        have hRl4 := hR4.lt
        have hRW' := hRW.chg (chg_put (fun q => q = w8.heap.size) _ _ (.deferred none) rfl) (by omega)
        refine ⟨.bool true, results_plain rfl _ _ w.heap.size rfl (hRW'.cell 0) rfl Try.underlying4, rfl, ?_⟩
        exact ((hB4.trans (hBW.mono hB4.size)).setCell (p := ⟨w.heap.size, 0, none⟩) (Nat.le_refl _) (.bool true)).trans ((chg_put (fun q => q = w8.heap.size) _ _ _ rfl).below (Nat.le_trans (by omega : w.heap.size ≤ W.heap.size) (chg_set W w.heap.size 0 (.bool true)).size) (fun q e => by omega))
      case stop =>
        intro c k W hk hz h hK
        exact h.elim
end Go.Proofs.Ytjgiiolamaimnaa
