/- The document's area, walked: End, SafeEnd, Append. -/
import Derived.Test.YtbfnmfakagdpfaaArea
import Derived.Test.YtbfnmfakagdpfaaSafes
import Derived.Deep.RegionLaw
namespace Go.Proofs.Ytbfnmfakagdpfaa
open Go.RowKit
set_option linter.unusedVariables false
set_option linter.unusedSimpArgs false
theorem info_bool7 : (Try.prog.info? 4).map (fun i => (i.zero, i.size, i.bytes)) = some (some (.bool false), 1, 1) := by kernel_rfl
/-- The document's area as it is handed on. -/
def docV (base : Int) (A : Option Addr) (n c : Nat) (S : Option Addr) (m mc : Nat) : Value := .agg #[.int .i64 base, .slice A n c, .slice S m mc]
/-- A new area of the document's. -/
def DocTo (w : World) (base : Int) (bs : List UInt8) (s : Nat) (e : Ending) (w' : World) : Prop :=
  ∃ A c S mc, e = .returned (docV base A bs.length c S bs.length mc) ∧ w'.ownsRow w.heap.size 5 1 (.slice A bs.length c) bs.length (bvals bs) ∧ w'.ownsRow w.heap.size 4 1 (.slice S bs.length mc) bs.length (sv bs.length s) ∧ Below w.heap.size w w'
theorem refEnd_any (base : Int) (A : Option Addr) (n c : Nat) (v : Value) (w : World) (h0 : 0 ≤ base) (h1 : base + n ≤ 9223372036854775807) :
    Calls Try.prog 34 #[.agg #[.int .i64 base, .slice A n c, v]] w fun e w' => e = .returned (.int .i64 (base + n)) ∧ Below w.heap.size w w' := by
  have hB1 := below_alloc w (.cells #[.int .i64 base, .slice A n c, v] 46)
  go_enter Try.func34, Try.ntmps34
  go_wp2
  go_ret
  exact ⟨rfl, hB1⟩
set_option maxHeartbeats 800000 in
theorem refSafeEnd_any (base : Int) (v : Value) (S : Option Addr) (m mc s : Nat) (w : World) (hS : Safes w S m s) (h0 : 0 ≤ base) (h1 : base + m ≤ 9223372036854775807) (hs : s ≤ m) :
    Calls Try.prog 33 #[.agg #[.int .i64 base, v, .slice S m mc]] w fun e w' => e = .returned (.int .i64 (base + s)) ∧ Below w.heap.size w w' := by
  have hB1 := below_alloc w (.cells #[.int .i64 base, v, .slice S m mc] 46)
  have hD1 := Blk.fresh w #[.int .i64 base, v, .slice S m mc] 46
  have hS1 := hS.below hB1
  go_enter Try.func33, Try.ntmps33
  go_wp2
  generalize w.alloc (.cells #[.int .i64 base, v, .slice S m mc] 46) = w1 at *
  obtain ⟨G, hG⟩ : ∃ G, w.heap.size = G := ⟨_, rfl⟩
  rw [hG] at hD1 ⊢
  have HG := Lib.hid hG
  clear hG
  have d0 : w1.cell? ⟨G, 0, none⟩ = some (.int .i64 base) := hD1.cell 0
  have d2 : w1.cell? ⟨G, 2, none⟩ = some (.slice S m mc) := hD1.cell 2
  go_loop [3, 4] (fun n i => ∃ k : Nat, k ≤ m ∧ i = .int .i64 k ∧ n = .int .i64 ((min k s : Nat) : Int)) (fun _ i => m - (intOf i).toNat)
  case atStart => exact ⟨0, by omega, rfl, by simp⟩
  case round =>
    obtain ⟨k, hk, rfl, rfl⟩ := hrel
    by_cases hlt : k < m
    · obtain ⟨b, o, rfl, hc⟩ := hS1.at_ k hlt
      by_cases hks : k < s
      · rw [decide_eq_true hks] at hc
        rw [show min k s = k by omega]
        go_wp2
        go_round
        case rel => exact ⟨k + 1, by omega, by go_num, by rw [show min (k + 1) s = k + 1 by omega]; go_num⟩
        case measure => simp [intOf]; omega
      · rw [decide_eq_false hks] at hc
        rw [show min k s = s by omega]
        go_wp2
        go_round
        case rel => exact ⟨k + 1, by omega, by go_num, by rw [show min (k + 1) s = s by omega]⟩
        case measure => simp [intOf]; omega
    · obtain rfl : k = m := by omega
      rw [show min k s = s by omega]
      go_wp2
      go_ret
      exact ⟨rfl, hB1⟩
theorem keepDoc {w w' : World} {g : Nat} {u v x : Value} {t : TypeId} (h : Blk w g #[u, v, x] t) (hb : Below w.heap.size w w') :
    w'.cell? ⟨g, 0, none⟩ = some u ∧ w'.cell? ⟨g, 1, none⟩ = some v ∧ w'.cell? ⟨g, 2, none⟩ = some x ∧ Below w.heap.size w w' :=
  ⟨(h.keep hb).cell 0, (h.keep hb).cell 1, (h.keep hb).cell 2, hb⟩
theorem hd4 {a b c d : Prop} (h : a ∧ b ∧ c ∧ d) : d := h.2.2.2
theorem hd4s {a b c : Prop} {B : Nat} {w0 w : World} (h : a ∧ b ∧ c ∧ Below B w0 w) : w0.heap.size ≤ w.heap.size := h.2.2.2.size
theorem hd4g {a b c : Prop} {w0 w w' : World} {row : Option Nat} (hg : w.grownBy w' row) (h : a ∧ b ∧ c ∧ Below w0.heap.size w0 w) (hr : ∀ k, row = some k → w0.heap.size ≤ k) : Below w0.heap.size w0 w' := h.2.2.2.grown hg h.2.2.2.size hr
theorem hd4a {a b c : Prop} {w0 w : World} {o : Obj} (h : a ∧ b ∧ c ∧ Below w0.heap.size w0 w) : Below w0.heap.size w0 (w.alloc o) := h.2.2.2.alloc h.2.2.2.size o
theorem own_apart7 {w : World} {B B' : Nat} {e e' : TypeId} {z z' n n' : Nat} {v v' : Value} {xs xs' : List Value} (h : w.ownsRow B e z v n xs) (h' : w.ownsRow B' e' z' v' n' xs') (hne : e ≠ e') : v.ownBlock = none ∨ v.ownBlock ≠ v'.ownBlock := by
  rcases h.2 with ⟨rfl, _⟩ | ⟨g, cap, cur, rfl, _, hg, _⟩
  · exact .inl rfl
  · rcases h'.2 with ⟨rfl, _⟩ | ⟨g', cap', cur', rfl, _, hg', _⟩
    · exact .inr (by simp [Value.ownBlock])
    · refine .inr fun e => ?_
      simp only [Value.ownBlock, Option.some.injEq] at e
      rw [e, hg'] at hg
      injection hg with hg
      injection hg with a b c
      exact hne b.symm
/-- The document's area in a variable of the call's. -/
structure DocM (w2 wx : World) (O : Nat) (base : Int) (n m s : Nat) (bs : List UInt8) (A : Option Addr) (c : Nat) (S : Option Addr) (mc : Nat) : Prop where
  blk : Blk wx O #[.int .i64 base, .slice A n c, .slice S m mc] 46
  oa : wx.ownsRow w2.heap.size 5 1 (.slice A n c) n (bvals bs)
  os : wx.ownsRow w2.heap.size 4 1 (.slice S m mc) m (sv m s)
  b : Below w2.heap.size w2 wx
  lo : w2.heap.size ≤ O
theorem docM_alloc {w2 w4 : World} {base : Int} {n s : Nat} {bs : List UInt8} {A S : Option Addr} {c mc : Nat} (hA : w4.ownsRow w2.heap.size 5 1 (.slice A n c) n (bvals bs)) (hS : w4.ownsRow w2.heap.size 4 1 (.slice S n mc) n (sv n s)) (hb : Below w2.heap.size w2 w4) :
    DocM w2 (w4.alloc (.cells #[.int .i64 base, .slice A n c, .slice S n mc] 46)) w4.heap.size base n n s bs A c S mc :=
  ⟨Blk.fresh _ _ _, own_below hA (below_alloc _ _), own_below hS (below_alloc _ _), hb.alloc hb.size _, hb.size⟩
theorem docM_set {w2 w4 : World} {K : Nat} {base : Int} {n s : Nat} {bs : List UInt8} {A S : Option Addr} {c mc : Nat} {u v x : Value} (hK : Blk w4 K #[u, v, x] 46) (hlo : w2.heap.size ≤ K) (hA : w4.ownsRow w2.heap.size 5 1 (.slice A n c) n (bvals bs)) (hS : w4.ownsRow w2.heap.size 4 1 (.slice S n mc) n (sv n s)) (hb : Below w2.heap.size w2 w4) :
    DocM w2 (((w4.setCell ⟨K, 0, none⟩ (.int .i64 base)).setCell ⟨K, 1, none⟩ (.slice A n c)).setCell ⟨K, 2, none⟩ (.slice S n mc)) K base n n s bs A c S mc := by
  have hC := ((chg_set w4 K 0 (.int .i64 base)).set (.inl rfl) 1 (.slice A n c)).set (.inl rfl) 2 (.slice S n mc)
  refine ⟨Blk.set (Blk.set (Blk.set hK 0 (.int .i64 base)) 1 (.slice A n c)) 2 (.slice S n mc), own_chg hA hC ?_, own_chg hS hC ?_, hb.trans (hC.below hb.size (fun k e => e ▸ hlo)), hlo⟩
  · exact fun k e e2 => own_not_blk7 hA hK (by decide) (by rw [e, e2])
  · exact fun k e e2 => own_not_blk7 hS hK (by decide) (by rw [e, e2])
theorem own_grown_or {w3 w4 : World} {B : Nat} {e : TypeId} {z n : Nat} {v : Value} {xs : List Value} (h : w3.ownsRow B e z v n xs) (hg : w3.grownBy w4 (Value.ownBlock (.slice none 0 0))) : w4.ownsRow B e z v n xs :=
  h.kept hg (by cases v.ownBlock <;> simp [Value.ownBlock])
theorem docM_pushA {w2 w5 w6 : World} {O : Nat} {base : Int} {n m s : Nat} {bs : List UInt8} {A A6 S : Option Addr} {c c6 mc : Nat} {x : UInt8} (h : DocM w2 w5 O base n m s bs A c S mc) (hg : w5.grownBy w6 (Value.ownBlock (.slice A n c)))
    (ho : w6.ownsRow w2.heap.size 5 1 (.slice A6 (n + 1) c6) (n + 1) (bvals bs ++ bvals [x])) : DocM w2 (w6.setCell ⟨O, 1, none⟩ (.slice A6 (n + 1) c6)) O base (n + 1) m s (bs ++ [x]) A6 c6 S mc := by
  have hB6 := Blk.grown h.blk hg (own_not_blk7 h.oa h.blk (by decide))
  have hs6 := h.os.kept hg (own_apart7 h.os h.oa (by decide))
  have hC7 := chg_set w6 O 1 (.slice A6 (n + 1) c6)
  rw [← bvals_append] at ho
  exact ⟨Blk.set hB6 1 (.slice A6 (n + 1) c6), own_chg ho hC7 (fun q e e2 => own_not_blk7 ho hB6 (by decide) (by rw [e, e2])), own_chg hs6 hC7 (fun q e e2 => own_not_blk7 hs6 hB6 (by decide) (by rw [e, e2])),
    (h.b.grown hg h.b.size (own_base h.oa)).setCell (p := ⟨O, 1, none⟩) h.lo _, h.lo⟩
theorem docM_pushS {w2 w5 w6 : World} {O : Nat} {base : Int} {n m s : Nat} {bs : List UInt8} {A S6 S : Option Addr} {c c6 mc : Nat} (h : DocM w2 w5 O base n m s bs A c S mc) (hs : s ≤ m) (hg : w5.grownBy w6 (Value.ownBlock (.slice S m mc)))
    (ho : w6.ownsRow w2.heap.size 4 1 (.slice S6 (m + 1) c6) (m + 1) (sv m s ++ [.bool false])) : DocM w2 (w6.setCell ⟨O, 2, none⟩ (.slice S6 (m + 1) c6)) O base n (m + 1) s bs A c S6 c6 := by
  have hB6 := Blk.grown h.blk hg (own_not_blk7 h.os h.blk (by decide))
  have hs6 := h.oa.kept hg (own_apart7 h.oa h.os (by decide))
  have hC7 := chg_set w6 O 2 (.slice S6 (m + 1) c6)
  rw [sv_push m s hs] at ho
  exact ⟨Blk.set hB6 2 (.slice S6 (m + 1) c6), own_chg hs6 hC7 (fun q e e2 => own_not_blk7 hs6 hB6 (by decide) (by rw [e, e2])), own_chg ho hC7 (fun q e e2 => own_not_blk7 ho hB6 (by decide) (by rw [e, e2])),
    (h.b.grown hg h.b.size (own_base h.os)).setCell (p := ⟨O, 2, none⟩) h.lo _, h.lo⟩
theorem DocM.below {w2 w5 w6 : World} {O : Nat} {base : Int} {n m s : Nat} {bs : List UInt8} {A S : Option Addr} {c mc : Nat} (h : DocM w2 w5 O base n m s bs A c S mc) (hb : Below w5.heap.size w5 w6) : DocM w2 w6 O base n m s bs A c S mc :=
  ⟨h.blk.keep hb, own_below h.oa hb, own_below h.os hb, below_then h.b hb h.b.size, h.lo⟩
/-- What a result's variable holds in the end. -/
theorem docM_ret {w w2 wr : World} {O R : Nat} {base : Int} {n m s : Nat} {bs : List UInt8} {A S : Option Addr} {c mc : Nat} {cs : Array Value} (h : DocM w2 wr O base n m s bs A c S mc) (hR : Blk wr R cs 46) (h3 : cs.size = 3) (hw : w.heap.size ≤ R) (hb : Below w.heap.size w w2) :
    Blk (((wr.setCell ⟨R, 0, none⟩ (.int .i64 base)).setCell ⟨R, 1, none⟩ (.slice A n c)).setCell ⟨R, 2, none⟩ (.slice S m mc)) R #[.int .i64 base, .slice A n c, .slice S m mc] 46 ∧
    (((wr.setCell ⟨R, 0, none⟩ (.int .i64 base)).setCell ⟨R, 1, none⟩ (.slice A n c)).setCell ⟨R, 2, none⟩ (.slice S m mc)).ownsRow w.heap.size 5 1 (.slice A n c) n (bvals bs) ∧
    (((wr.setCell ⟨R, 0, none⟩ (.int .i64 base)).setCell ⟨R, 1, none⟩ (.slice A n c)).setCell ⟨R, 2, none⟩ (.slice S m mc)).ownsRow w.heap.size 4 1 (.slice S m mc) m (sv m s) ∧
    Below w.heap.size w (((wr.setCell ⟨R, 0, none⟩ (.int .i64 base)).setCell ⟨R, 1, none⟩ (.slice A n c)).setCell ⟨R, 2, none⟩ (.slice S m mc)) := by
  have hC := ((chg_set wr R 0 (.int .i64 base)).set (.inl rfl) 1 (.slice A n c)).set (.inl rfl) 2 (.slice S m mc)
  have hB := below_then hb h.b hb.size
  refine ⟨?_, own_mono (own_chg h.oa hC (fun k e e2 => own_not_blk7 h.oa hR (by decide) (by rw [e, e2]))) hb.size, own_mono (own_chg h.os hC (fun k e e2 => own_not_blk7 h.os hR (by decide) (by rw [e, e2]))) hb.size, hB.trans (hC.below hB.size (fun k e => e ▸ hw))⟩
  have := Blk.set (Blk.set (Blk.set hR 0 (.int .i64 base)) 1 (.slice A n c)) 2 (.slice S m mc)
  rcases cs with ⟨_ | ⟨a, _ | ⟨b, _ | ⟨c, _ | ⟨d, l⟩⟩⟩⟩⟩ <;> simp at h3
  exact this
set_option maxHeartbeats 1600000 in
theorem refAppend_any (base : Int) (A : Option Addr) (n c : Nat) (S : Option Addr) (mc s : Nat) (bs : List UInt8) (B : Option Addr) (m bc : Nat) (b : List UInt8) (w : World)
    (hA : Bytes w A n bs) (hS : Safes w S n s) (hs : s ≤ n) (hb : Bytes w B m b) (hn : n + m ≤ 214748364800000) :
    Calls Try.prog 28 #[.agg #[.int .i64 base, .slice A n c, .slice S n mc], .slice B m bc] w (DocTo w base (bs ++ b) s) := by
  have hB1 := below_alloc w (.cells #[.int .i64 base, .slice A n c, .slice S n mc] 46)
  have hD1 := Blk.fresh w #[.int .i64 base, .slice A n c, .slice S n mc] 46
  have hb2 := below_alloc (w.alloc (.cells #[.int .i64 base, .slice A n c, .slice S n mc] 46)) (.cells #[.int .i64 0, .slice none 0 0, .slice none 0 0] 46)
  have hR2 := Blk.fresh (w.alloc (.cells #[.int .i64 base, .slice A n c, .slice S n mc] 46)) #[.int .i64 0, .slice none 0 0, .slice none 0 0] 46
  have hB2 := below_then hB1 hb2 hB1.size
  have hD2 : Blk _ _ _ _ := hD1.keep hb2
  have hz : (w.alloc (.cells #[.int .i64 base, .slice A n c, .slice S n mc] 46)).heap.size = w.heap.size + 1 := by simp
  rw [hz] at hR2
  go_enter Try.func28, Try.ntmps28
  go_wp2_with fail
  generalize (w.alloc (.cells #[.int .i64 base, .slice A n c, .slice S n mc] 46)).alloc (.cells #[.int .i64 0, .slice none 0 0, .slice none 0 0] 46) = w2 at *
  obtain ⟨G, hG⟩ : ∃ G, w.heap.size = G := ⟨_, rfl⟩
  rw [hG] at hD2 hR2 ⊢
  have HG := Lib.hid hG
  clear hG hb2 hD1 hB1 hz
  have hGl := hD2.lt
  have hA2 := hA.below hB2
  have hS2 := hS.below hB2
  have kk := keepDoc hD2 (Below.refl _ w2).drew
  have hn1 : (0 + n) * 1 ≤ 214748364800000 := by omega
  have hw : w.heap.size ≤ w2.heap.size := hB2.size
  go_cut [5] from 7 to 15 (fun v wx => ∃ O A3 c3 A4 c4, v = .pointer (some ⟨O, 0, none⟩) ∧ DocM w2 wx O base n n s bs A3 c3 A4 c4)
  case first =>
    go_region_held3 (fun w' => w'.cell? ⟨G, 0, none⟩ = some (.int .i64 base) ∧ w'.cell? ⟨G, 1, none⟩ = some (.slice A n c) ∧ w'.cell? ⟨G, 2, none⟩ = some (.slice S n mc) ∧ Below w2.heap.size w2 w')
      (first | exact kk | exact kS | exact kT | exact keepDoc hD2 (hd4a (by assumption)) | exact keepDoc hD2 (((hb4.setCell (p := ⟨w2.heap.size, 0, none⟩) (Nat.le_refl _) _).setCell (p := ⟨w2.heap.size, 1, none⟩) (Nat.le_refl _) _).setCell (p := ⟨w2.heap.size, 2, none⟩) (Nat.le_refl _) _) | exact keepDoc hD2 (((hb4.setCell (p := ⟨w3.heap.size, 0, none⟩) hb3.size _).setCell (p := ⟨w3.heap.size, 1, none⟩) hb3.size _).setCell (p := ⟨w3.heap.size, 2, none⟩) hb3.size _) | exact keepDoc hD2 (hb4.alloc hb4.size _))
      (first | (refine step_append_any _ (by rfl) _ _ 23 (by rfl) w2.heap.size 5 _ 1 1 Try.underlying23 info_byte7 rfl (by decide) (.slice none 0 0) 0 [] (by rfl) (World.ownsRow_nil _ _ _ _) A n c (bvals bs) (by rfl) (hA2.below (hd4 (by assumption))).rdc (bvals_one bs) (by decide) (by decide) hn1 (hd4s (by assumption)) ?_; intro A3 c3 w3 ho3 hg3 hne3 hnn3; simp only [Nat.zero_add, List.nil_append] at ho3; have hb3 : Below w2.heap.size w2 w3 := hd4g hg3 (by assumption) (fun k e => by cases e); have kS := keepDoc hD2 hb3; first | (have bz := Blk.grown (Blk.fresh w2.drew #[.int .i64 0, .slice none 0 0, .slice none 0 0] 46) hg3 (by simp [Value.ownBlock]); have z0 : w3.cell? ⟨w2.heap.size, 0, none⟩ = some (.int .i64 0) := bz.cell 0; have z1 : w3.cell? ⟨w2.heap.size, 1, none⟩ = some (.slice none 0 0) := bz.cell 1; have z2 : w3.cell? ⟨w2.heap.size, 2, none⟩ = some (.slice none 0 0) := bz.cell 2; have zf0 : w3.frozen? ⟨w2.heap.size, 0, none⟩ = false := bz.frozen 0; have zf1 : w3.frozen? ⟨w2.heap.size, 1, none⟩ = false := bz.frozen 1; have zf2 : w3.frozen? ⟨w2.heap.size, 2, none⟩ = false := bz.frozen 2) | skip) | (refine step_append_any _ (by rfl) _ _ 44 (by rfl) w2.heap.size 4 _ 1 1 Try.underlying44 info_bool7 rfl (by decide) (.slice none 0 0) 0 [] (by rfl) (World.ownsRow_nil _ _ _ _) S n mc (sv n s) (by rfl) (hS2.below (hd4 (by assumption))).rdc (sv_one n s) (by decide) (by decide) hn1 (hd4s (by assumption)) ?_; intro A4 c4 w4 ho4 hg4 hne4 hnn4; simp only [Nat.zero_add, List.nil_append] at ho4; have hb4 : Below w2.heap.size w2 w4 := hd4g hg4 (by assumption) (fun k e => by cases e); have kT := keepDoc hD2 hb4; have ho3b : w4.ownsRow w2.heap.size 5 1 (.slice A3 n c3) n (bvals bs) := (by first | exact own_grown_or ho3 hg4 | exact own_grown_or (ho3.alloc _) hg4); first | (have by_ := Blk.grown bz hg4 (by simp [Value.ownBlock]); have y0 : w4.cell? ⟨w2.heap.size, 0, none⟩ = some (.int .i64 0) := by_.cell 0; have y1 : w4.cell? ⟨w2.heap.size, 1, none⟩ = some (.slice none 0 0) := by_.cell 1; have y2 : w4.cell? ⟨w2.heap.size, 2, none⟩ = some (.slice none 0 0) := by_.cell 2; have yf0 : w4.frozen? ⟨w2.heap.size, 0, none⟩ = false := by_.frozen 0; have yf1 : w4.frozen? ⟨w2.heap.size, 1, none⟩ = false := by_.frozen 1; have yf2 : w4.frozen? ⟨w2.heap.size, 2, none⟩ = false := by_.frozen 2) | (have by_ := Blk.grown (Blk.fresh w3 #[.int .i64 0, .slice none 0 0, .slice none 0 0] 46) hg4 (by simp [Value.ownBlock]); have y0 : w4.cell? ⟨w3.heap.size, 0, none⟩ = some (.int .i64 0) := by_.cell 0; have y1 : w4.cell? ⟨w3.heap.size, 1, none⟩ = some (.slice none 0 0) := by_.cell 1; have y2 : w4.cell? ⟨w3.heap.size, 2, none⟩ = some (.slice none 0 0) := by_.cell 2; have yf0 : w4.frozen? ⟨w3.heap.size, 0, none⟩ = false := by_.frozen 0; have yf1 : w4.frozen? ⟨w3.heap.size, 1, none⟩ = false := by_.frozen 1; have yf2 : w4.frozen? ⟨w3.heap.size, 2, none⟩ = false := by_.frozen 2) | skip))
    all_goals go_wp2_with fail
    all_goals go_meet
    · exact ⟨_, _, _, _, _, rfl, docM_alloc ho3b ho4 hb4⟩
    · exact ⟨_, _, _, _, _, rfl, docM_set by_ hb3.size ho3b ho4 hb4⟩
    · exact ⟨_, _, _, _, _, rfl, docM_set by_ (Nat.le_refl _) ho3b ho4 hb4⟩
  case rest =>
    obtain ⟨O, A3, c3, A4, c4, rfl, hM⟩ := hcut
    have hb3 := hb.below hB2
    have HL := Lib.hid hb.1
    have HLb := Lib.hid hA.1
    go_wp2_with fail
    go_loopw [6] (fun i wr => ∃ k : Nat, ∃ A3 c3 A4 c4, k ≤ m ∧ i = .int .i64 k ∧ DocM w2 wr O base (n + k) (n + k) s (bs ++ b.take k) A3 c3 A4 c4) (fun i _ => m - (intOf i).toNat)
    case atStart => exact ⟨0, A3, c3, A4, c4, by omega, rfl, by simpa using hM⟩
    case round =>
      clear hM
      obtain ⟨k, A3, c3, A4, c4, hk, rfl, hM⟩ := hrel
      have o1 : wr.cell? ⟨O, 1, none⟩ = some (.slice A3 (n + k) c3) := hM.blk.cell 1
      have o2 : wr.cell? ⟨O, 2, none⟩ = some (.slice A4 (n + k) c4) := hM.blk.cell 2
      have f1 := hM.blk.frozen 1
      have f2 := hM.blk.frozen 2
      have hOl := hM.blk.lt
      have hsz := hM.b.size
      by_cases hlt : k < m
      · obtain ⟨bb, bo, x, rfl, hx, hxv⟩ := (hb3.below hM.b).at_ k hlt
        have HX := Lib.hid hxv
        clear hxv
        have hn2 : n + k + 1 ≤ 214748364800000 := by omega
        have hM1 := hM.below ((Below.refl _ wr).drew.alloc (Nat.le_refl _) (.cells #[.int .u8 x] 5))
        have hB1 := hM1.blk
        have hsz1 := hM1.b.size
        have hbr := hM.b
        have hlo := hM.lo
        have hxb : bvals [b.getD k 0] = [Value.int .u8 x] := by rw [HX.out]; rfl
        have hkb : k < b.length := by rw [HL.out]; exact hlt
        have htk : b.take (k + 1) = b.take k ++ [b.getD k 0] := by
          rw [List.take_succ_eq_append_getElem hkb]
          simp [List.getD_eq_getElem?_getD, hkb]
        have HT := Lib.hid htk
        have HXB := Lib.hid hxb
        clear htk hxb hkb
        go_wp2_with fail
        go_cut [22] from 23 to 30 (fun u wx => ∃ A6 c6, DocM w2 wx O base (n + k + 1) (n + k) s (bs ++ b.take (k + 1)) A6 c6 A4 c4)
        case first =>
          go_region_law (first | (refine step_append_any _ (by rfl) _ _ 23 (by rfl) w2.heap.size 5 _ 1 1 Try.underlying23 info_byte7 rfl (by decide) (.slice A3 (n + k) c3) (n + k) _ (by rfl) hM1.oa _ 1 1 [_] (by rfl) (rdc_block (cs := #[_]) (t := 5) (fr := (0, 0)) (heap_alloc_new _ _)) (by simp [Value.oneCell']) (by decide) (by decide) (by omega) hsz1 ?_; intro A6 c6 w6 ho6 hg6 hne6 hnn6; have hb6 : Below w2.heap.size w2 w6 := hM1.b.grown hg6 hsz1 (own_base hM1.oa); have hB6 := Blk.grown hB1 hg6 (own_not_blk7 hM1.oa hB1 (by decide)); have o6 : w6.cell? ⟨O, 1, none⟩ = some (.slice A3 (n + k) c3) := hB6.cell 1; have f6 := hB6.frozen 1))
          all_goals go_wp2_with fail
          all_goals go_meet
          all_goals exact ⟨A6, c6, by rw [HT.out, ← List.append_assoc]; exact docM_pushA hM1 hg6 (by rw [HXB.out]; exact ho6)⟩
        case rest =>
          clear hM1 hB1 hM hbr o1 o2 f1 f2 hOl hsz hsz1 hx
          obtain ⟨A6, c6, hM⟩ := hcut
          have hM2 := hM.below ((Below.refl _ wc).alloc (Nat.le_refl _) (.cells #[.bool false] 4))
          have hB2' := hM2.blk
          have hsz2 := hM2.b.size
          have o2 : wc.cell? ⟨O, 2, none⟩ = some (.slice A4 (n + k) c4) := hM.blk.cell 2
          have hOl := hM.blk.lt
          have hsk : s ≤ n + k := by omega
          go_wp2_with (at_builtin; (refine wpl_append _ rfl _ _ 44 rfl w2.heap.size 4 _ 1 1 Try.underlying44 info_bool7 rfl (by decide) (.slice A4 (n + k) c4) (n + k) _ rfl hM2.os _ 1 1 [_] rfl (rdc_block (cs := #[_]) (t := 4) (fr := (0, 0)) (heap_alloc_new _ _)) (by simp [Value.oneCell']) (by decide) (by decide) (by omega) hsz2 ?_); intro A8 c8 w8 ho8 hg8 hne8 hnn8; have hB8 := Blk.grown hB2' hg8 (own_not_blk7 hM2.os hB2' (by decide)); have p2 : w8.cell? ⟨O, 2, none⟩ = some (.slice A4 (n + k) c4) := hB8.cell 2; have r2 := hB8.frozen 2)
          have hN := docM_pushS hM2 hsk hg8 ho8
          go_roundw
          case rel => exact ⟨k + 1, A6, c6, A8, c8, by omega, by go_num, hN⟩
          case measure => simp [intOf]; omega
      · obtain rfl : k = m := by omega
        have hR := hR2.keep hM.b
        have g0 : wr.cell? ⟨G + 1, 0, none⟩ = some (.int .i64 0) := hR.cell 0
        have g1 : wr.cell? ⟨G + 1, 1, none⟩ = some (.slice none 0 0) := hR.cell 1
        have g2 : wr.cell? ⟨G + 1, 2, none⟩ = some (.slice none 0 0) := hR.cell 2
        have h0 := hR.frozen 0
        have h1 := hR.frozen 1
        have h2 := hR.frozen 2
        have o0 : wr.cell? ⟨O, 0, none⟩ = some (.int .i64 base) := hM.blk.cell 0
        have hl : (bs ++ b).length = n + k := by rw [List.length_append, HLb.out, HL.out]
        have htk : b.take k = b := by rw [← HL.out]; exact List.take_length
        rw [htk] at hM
        have hF := docM_ret hM hR rfl (by rw [HG.out]; omega) hB2
        clear htk
        go_wp2
        refine bodyPost_ret (results_cell_row rfl _ _ (G + 1) 46 _ (0, 0) _ rfl hF.1 Try.underlying46 rfl (by kernel_rfl)) rfl ⟨A3, c3, A4, c4, ?_, ?_, ?_, hF.2.2.2⟩
        · rw [hl]; rfl
        · rw [hl]; exact hF.2.1
        · rw [hl]; exact hF.2.2.1
end Go.Proofs.Ytbfnmfakagdpfaa
