/- Package frame's Count, walked. -/
import Derived.Test.YtjgiiolamaimnaaAllIt
namespace Go.Proofs.Ytjgiiolamaimnaa
open Go.RowKit Go.Shelf
set_option linter.unusedVariables false
set_option linter.unusedSimpArgs false
attribute [local go_sem] Oper.semAt_some
theorem chgBook_blk {w A B : World} {g : Nat} {cs : Array Value} {t : TypeId} (h : Blk A g cs t) (hc : Chg (bookF w) A B) (hg : g < w.heap.size) : Blk B g cs t := h.chg hc (fun e => by rcases e with e | e <;> omega)
theorem chgBook_below {w A B : World} {B0 : Nat} {w0 : World} (h : Below B0 w0 A) (hc : Chg (bookF w) A B) (hB : B0 ≤ w.heap.size) (hA : B0 ≤ A.heap.size) : Below B0 w0 B := h.trans (hc.below hA (fun q e => by rcases e with e | e <;> omega))
theorem allV_book {w A B : World} {b : List UInt8} {k : Nat} {W0 : World} {vals : Array Value} (h : AllV b k W0 A vals) (hz : w.heap.size + 2 ≤ W0.heap.size) (hc : Chg (bookF w) A B) : AllV b k W0 B vals := by
  obtain ⟨A', n, c, rfl, hn, ho⟩ := h
  refine ⟨A', n, c, rfl, hn, own_chg ho hc (fun q e e2 => ?_)⟩
  have := own_base ho q e
  rcases e2 with e2 | e2 <;> omega
theorem keep2_of {w A B : World} {F : Nat → Prop} (h : Chg F A B) (hz : w.heap.size + 2 ≤ A.heap.size) (h1 : ¬ F w.heap.size) (h2 : ¬ F (w.heap.size + 1)) : Keep2 w A B := ⟨h.block _ (by omega) h1, h.block _ (by omega) h2⟩
theorem get0 (x y : Value) : (#[x, y] : Array Value).getD 0 undef = x := rfl
theorem get1 (x y : Value) : (#[x, y] : Array Value).getD 1 undef = y := rfl
theorem allV_size {b : List UInt8} {k : Nat} {W0 W : World} {vals : Array Value} (h : AllV b k W0 W vals) : vals.size = 2 := by
  obtain ⟨A', n, c, rfl, hn, ho⟩ := h
  rfl
set_option maxRecDepth 100000 in
set_option maxHeartbeats 3200000 in
theorem fcount_any (A : Option Addr) (n c : Nat) (b : List UInt8) (w : World) (hb : Bytes w A n b) (hn : n ≤ 140737488355328) :
    Calls Try.prog 24 #[.slice A n c] w fun e w' => e = .returned (.tuple #[.int .i64 ((allF b).length : Nat), .int .i64 (posL 0 (allF b) (allF b).length : Nat)]) ∧ Below w.heap.size w w' := by
  have HLEN := Lib.hid hb.1
  refine (callsIn_wide (n := 5)).1 ?_
  refine callsIn_of_wp_marks Try.func24 rfl trivial ?_ rfl
  simp only [Try.ntmps24, List.size_toArray, List.length_cons, List.length_nil, Nat.reduceAdd, Nat.reduceSub, Array.replicate_succ, Array.replicate_zero, List.push_toArray, List.append_toArray, List.nil_append, List.cons_append]
  have hba := below_alloc w (.cells #[.int .i64 0] 3)
  have hbb := below_then hba (below_alloc (w.alloc (.cells #[.int .i64 0] 3)) (.cells #[.int .i64 0] 3)) hba.size
  have hX4 : Blk ((w.alloc (.cells #[.int .i64 0] 3)).alloc (.cells #[.int .i64 0] 3)) w.heap.size #[.int .i64 0] 3 := (Blk.fresh w #[.int .i64 0] 3).keep (below_alloc _ _)
  have hX5 := Blk.fresh (w.alloc (.cells #[.int .i64 0] 3)) #[.int .i64 0] 3
  rw [World.size_alloc] at hX5
  have hbr := hb.below hbb
  gi_wp2_with fail
  refine ⟨trivial, callsIn_wide.2 ((fall_any A n c b _ hbr (by omega)).mono ?_)⟩
  rintro e w2 ⟨X, A2, c2, rfl, hAll, hb2⟩
  have hX4' := hX4.keep hb2
  have hX5' := hX5.keep hb2
  have hB2 := below_then hbb hb2 hbb.size
  have hs2 := hb2.size
  have hXl := hAll.lo
  have hzz : ((w.alloc (.cells #[.int .i64 0] 3)).alloc (.cells #[.int .i64 0] 3)).heap.size = w.heap.size + 2 := by simp
  have HZZ := Lib.hid hzz
  clear hX4 hX5 hba hbb hbr hzz
  gi_wp2_with fail
  have hz2 : w.heap.size + 2 ≤ w2.heap.size := by have := HZZ.out; omega
  have hPl := hAll.lt
  have hXlo : w.heap.size + 2 ≤ X := by have := HZZ.out; omega
  have hA2lo : ∀ q, blkO A2 = some q → w.heap.size + 2 ≤ q := fun q e => by have := own_base hAll.own q (by rw [ownBlock_slice]; exact e); have := HZZ.out; omega
  clear hs2 hXl
  refine range_law (m := 3) (gf := 37) (lb := #[.pointer (some ⟨X, 0, none⟩)]) rfl (enters_of Try.func37 (by kernel_rfl) rfl) (allIt w2 _ X A2 n c2 b 3 hAll (by omega)) (fun k W0 W1 vals h => allV_size h)
    (fun k W0 A B vals h hz hc => allV_book h hz hc) hPl
    (fun k W => Blk W w.heap.size #[.int .i64 (k : Nat)] 3 ∧ Blk W (w.heap.size + 1) #[.int .i64 (posL 0 (allF b) k : Nat)] 3 ∧ Below w.heap.size w W) (fun _ _ _ => False)
    (fun k A B h hb => ⟨h.1.keep hb, h.2.1.keep hb, below_then h.2.2 hb h.2.2.size⟩)
    (fun k A B h hz hc => ⟨chgBook_blk h.1 hc (by omega), chgBook_blk h.2.1 hc (by omega), chgBook_below h.2.2 hc hB2.size (Nat.le_trans hB2.size (by omega))⟩)
    (fun c k A B h _ _ => h) ⟨hX4', hX5', hB2⟩
    (fun vals => { tmps := #[.slice A n c, undef, .int .i64 0, .int .i64 0, .pointer (some ⟨w.heap.size, 0, none⟩), .pointer (some ⟨w.heap.size + 1, 0, none⟩), vals.getD 0 undef, .slice A n c, .func (.func 37) #[] #[.pointer (some ⟨X, 0, none⟩)], vals.getD 0 undef, vals.getD 1 undef, undef, undef, undef, undef, undef], defers := [] }) ?assign ?body ?done ?stop
  case assign =>
    intro l k W0 W vals K hv hK
    obtain ⟨A', n', c', rfl, hn', ho⟩ := hv
    gi_wp2
    exact hK
  case body =>
    rintro l k W0 W vals hk hz hI0 hc ⟨h4, h5, hB⟩ hv
    obtain ⟨A', n', c', rfl, hn', ho⟩ := hv
    simp only [get0, get1]
    have hzW : w2.heap.size + 2 ≤ W.heap.size := Nat.le_trans hz hc.size
    have e4 : W.cell? ⟨w.heap.size, 0, none⟩ = some (.int .i64 (k : Nat)) := h4.cell 0
    have e5 : W.cell? ⟨w.heap.size + 1, 0, none⟩ = some (.int .i64 (posL 0 (allF b) k : Nat)) := h5.cell 0
    have f4 := h4.frozen 0
    have f5 := h5.frozen 0
    have hkl : (k : Int) < 214748364800000 := by
      have := (allF_spec b k (Nat.le_of_lt hk)).1
      have h9 := (allF_spec b k (Nat.le_of_lt hk)).2.1
      have := HLEN.out
      omega
    generalize hpk : posL 0 (allF b) k = pk at *
    generalize hpk1 : posL 0 (allF b) (k + 1) = pk1 at *
    have HPK := Lib.hid hpk
    have HPK1 := Lib.hid hpk1
    clear hpk hpk1
    have hcs := ((chg_set W w.heap.size 0 (.int .i64 ((k : Int) + 1))).mono (fun q e => Or.inl e)).set (F := fun q => q = w.heap.size ∨ q = w.heap.size + 1) (g := w.heap.size + 1) (.inl (.inr rfl)) 0 (.int .i64 (pk1 : Nat))
    have h4' := (h4.set 0 (.int .i64 ((k : Int) + 1))).chg (chg_set _ (w.heap.size + 1) 0 (.int .i64 (pk1 : Nat))) (by omega)
    have h5' := Blk.set (h5.chg (chg_set W w.heap.size 0 (.int .i64 ((k : Int) + 1))) (by omega)) 0 (.int .i64 (pk1 : Nat))
    have HH := Lib.hid (And.intro h4' (And.intro h5' hcs))
    clear h4' h5' hcs
    gi_wp2
    obtain ⟨h4', h5', hcs⟩ := HH.out
    refine ⟨keep2_of hcs hzW (by omega) (by omega), hcs.mono (fun q e e2 => ?_), ?_, ?_, hB.trans (hcs.below hB.size (fun q e => by omega))⟩
    · rcases e2 with e2 | e2
      · omega
      · have := hA2lo q e2; omega
    · exact h4'
    · rw [HPK1.out]; exact h5'
  case done =>
    rintro W hz ⟨h4, h5, hB⟩ hK
    have e4 : W.cell? ⟨w.heap.size, 0, none⟩ = some (.int .i64 ((allF b).length : Nat)) := h4.cell 0
    have e5 : W.cell? ⟨w.heap.size + 1, 0, none⟩ = some (.int .i64 (posL 0 (allF b) (allF b).length : Nat)) := h5.cell 0
    obtain ⟨N, hN⟩ : ∃ N, (allF b).length = N := ⟨_, rfl⟩
    rw [hN] at e4 e5
    obtain ⟨p, hp⟩ : ∃ p, posL 0 (allF b) N = p := ⟨_, rfl⟩
    rw [hp] at e5
    have HN := Lib.hid hN
    have HP := Lib.hid hp
    clear hN hp h4 h5
    gi_wp2
    gi_region
    all_goals gi_wp2
    all_goals refine ⟨by simp, .inl ⟨_, _, rfl, run_takeDeferred (w := W.drew) hK, ?_⟩⟩
    all_goals refine ⟨.tuple #[.int .i64 (N : Nat), .int .i64 (p : Nat)], by simp [results, Try.results24, go_sem], ?_, ?_⟩
    all_goals first | exact (by rw [HN.out, HP.out]) | skip
    all_goals exact (hB.drew).trans ((chg_put (fun q => q = w2.heap.size) _ _ _ rfl).below (Nat.le_trans hB2.size (by show w2.heap.size ≤ W.heap.size; omega)) (fun q e => by have := hB2.size; omega))
  case stop =>
    intro c k W hk hz h hK
    exact h.elim
end Go.Proofs.Ytjgiiolamaimnaa
