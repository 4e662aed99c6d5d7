/- Package area, walked: what each method does to an area in memory. -/
import Derived.Test.YtodaplkijdjbpaaProg
import Derived.Test.YtodaplkijdjbpaaFoot
import Derived.Test.YtodaplkijdjbpaaResults
import Derived.Deep.QuietTactic
import Derived.BigQuiet
import Derived.BigRegion
import Derived.StillTailTactics
import Derived.Deep.RegionHeld3
import Derived.Deep.RegionWith
import Derived.Deep.CutRange
import Derived.Laws.BitsAllLaws
namespace Go.Proofs.Ytodaplkijdjbpaa
open Go.RowKit
set_option linter.unusedVariables false
set_option linter.unusedSimpArgs false
theorem info_byte7 : (Try.prog.info? 5).map (fun i => (i.zero, i.size, i.bytes)) = some (some (.int .u8 0), 1, 1) := by kernel_rfl
theorem own_not_blk7 {w : World} {B : Nat} {e : TypeId} {z n : Nat} {v : Value} {xs : List Value} {g : Nat} {cs : Array Value} {t : TypeId} (h : w.ownsRow B e z v n xs) (hb : Blk w g cs t) (hne : e ≠ t) : v.ownBlock ≠ some g := by
  rcases h.2 with ⟨rfl, _⟩ | ⟨g', cap, cur, rfl, _, hg, _⟩
  · simp [Value.ownBlock]
  · intro e
    simp only [Value.ownBlock, Option.some.injEq] at e
    rw [e] at hg
    rw [Blk, hg] at hb
    injection hb with hb
    injection hb with a b c
    exact hne b
/-- An area in memory: where it begins, its bytes, how many are safe. -/
structure Ar (w : World) (g : Nat) (A : Option Addr) (c : Nat) (base : Int) (bs : List UInt8) (s : Nat) : Prop where
  blk : Blk w g #[.int .i64 base, .slice A bs.length c, .int .i64 s] 116
  own : w.ownsRow 0 5 1 (.slice A bs.length c) bs.length (bvals bs)
  sle : s ≤ bs.length
  b0 : 0 ≤ base
  b1 : base + bs.length ≤ 4612811918334230528
  n1 : bs.length ≤ 214748364800000
theorem Ar.ne {w : World} {g : Nat} {A : Option Addr} {c : Nat} {base : Int} {bs : List UInt8} {s : Nat} (h : Ar w g A c base bs s) : blkO A ≠ some g := by
  have := own_not_blk7 h.own h.blk (by decide)
  rwa [ownBlock_slice] at this
theorem Ar.lt {w : World} {g : Nat} {A : Option Addr} {c : Nat} {base : Int} {bs : List UInt8} {s : Nat} (h : Ar w g A c base bs s) : g < w.heap.size := h.blk.lt
theorem Ar.lt2 {w : World} {g : Nat} {A : Option Addr} {c : Nat} {base : Int} {bs : List UInt8} {s : Nat} (h : Ar w g A c base bs s) : ∀ k, blkO A = some k → k < w.heap.size := fun k hk => (h.own.lt k (by rw [ownBlock_slice]; exact hk)).2
theorem Ar.bytes {w : World} {g : Nat} {A : Option Addr} {c : Nat} {base : Int} {bs : List UInt8} {s : Nat} (h : Ar w g A c base bs s) : Bytes w A bs.length bs := own_bytes' h.own (by have := h.n1; omega)
theorem Ar.cap {w : World} {g : Nat} {A : Option Addr} {c : Nat} {base : Int} {bs : List UInt8} {s : Nat} (h : Ar w g A c base bs s) : bs.length ≤ c := by
  obtain ⟨A', c', e, h1, _⟩ := own_reads h.own
  injection e with e1 e2 e3
  omega
/-- The blocks of an area. -/
def arF (g : Nat) (A : Option Addr) : Nat → Prop := fun k => k = g ∨ blkO A = some k
theorem Ar.chg {F : Nat → Prop} {w w' : World} {g : Nat} {A : Option Addr} {c : Nat} {base : Int} {bs : List UInt8} {s : Nat} (h : Ar w g A c base bs s) (hc : Chg F w w') (hn : ∀ k, arF g A k → ¬ F k) : Ar w' g A c base bs s :=
  ⟨h.blk.chg hc (hn g (.inl rfl)), own_chg h.own hc (fun k e => hn k (.inr (by rwa [ownBlock_slice] at e))), h.sle, h.b0, h.b1, h.n1⟩
theorem Ar.below {w w' : World} {g : Nat} {A : Option Addr} {c : Nat} {base : Int} {bs : List UInt8} {s : Nat} (h : Ar w g A c base bs s) (hb : Below w.heap.size w w') : Ar w' g A c base bs s := h.chg (chg_below hb (fun _ => False)) (fun _ _ e => e)
/-- What an operation of an area comes to. -/
def ArTo (w : World) (F : Nat → Prop) (g : Nat) (base : Int) (bs : List UInt8) (s : Nat) (r : Int) (e : Ending) (w' : World) : Prop :=
  e = .returned (.int .i64 r) ∧ ∃ A c, Ar w' g A c base bs s ∧ Chg F w w' ∧ ∀ k, blkO A = some k → F k ∨ w.heap.size ≤ k
theorem below_drew7 (w : World) (n : Nat) : Below w.heap.size w (w.drewN n) := ⟨rfl, rfl, rfl, Nat.le_refl _, fun _ _ => rfl⟩
theorem areaNew_any (w : World) : Calls Try.prog 37 #[] w fun e w' => e = .returned (.pointer (some ⟨w.heap.size, 0, none⟩)) ∧ w' = w.alloc (.cells #[.int .i64 0, .slice none 0 0, .int .i64 0] 116) := by
  go_enter Try.func37, Try.ntmps37
  go_wp2
  go_ret
  exact ⟨rfl, rfl⟩
theorem ar_zero (w : World) : Ar (w.alloc (.cells #[.int .i64 0, .slice none 0 0, .int .i64 0] 116)) w.heap.size none 0 0 [] 0 :=
  ⟨Blk.fresh _ _ _, World.ownsRow_nil _ _ _ _, Nat.le_refl _, by decide, by decide, by decide⟩
theorem own7_any (A : Option Addr) (n c : Nat) (bs : List UInt8) (w : World) (hb : Bytes w A n bs) (hn : n ≤ 214748364800000) :
    Calls Try.prog 67 #[.slice A n c] w fun e w' => ∃ A' c', e = .returned (.slice A' n c') ∧ w'.ownsRow w.heap.size 5 1 (.slice A' n c') n (bvals bs) ∧ Below w.heap.size w w' := by
  have H0 := World.ownsRow_nil w w.heap.size 5 1
  go_enter Try.func67, Try.ntmps67
  go_wp2_with (at_builtin; refine wpl_append _ rfl _ _ 30 rfl w.heap.size 5 _ 1 1 Try.underlying30 info_byte7 rfl (by decide) (.slice none 0 0) 0 [] rfl H0 A n c (bvals bs) rfl hb.rdc (bvals_one bs) (by decide) (by decide) (by omega) (by simp) ?_; intro A' c' w' hown hgr hne hnn; simp only [Nat.zero_add, List.nil_append] at hown ⊢; clear hnn hne)
  go_ret
  exact ⟨A', c', rfl, hown, (Below.refl _ w).grown hgr (by simp) (fun k h => by simp [Value.ownBlock] at h)⟩
theorem areaSync_any {g : Nat} {A : Option Addr} {c : Nat} {base : Int} {bs : List UInt8} {s : Nat} {w : World} (h : Ar w g A c base bs s) :
    Calls Try.prog 50 #[.pointer (some ⟨g, 0, none⟩)] w (ArTo w (arF g A) g base bs bs.length 0) := by
  have c1 : w.cell? ⟨g, 1, none⟩ = _ := h.blk.cell 1
  have c2 : w.cell? ⟨g, 2, none⟩ = _ := h.blk.cell 2
  have f2 := h.blk.frozen 2
  simp at c1 c2
  have hS := h.blk.set 2 (.int .i64 bs.length)
  have hC := chg_set w g 2 (.int .i64 bs.length)
  go_enter Try.func50, Try.ntmps50
  go_wp2
  go_ret
  exact ⟨rfl, A, c, ⟨hS, own_chg h.own hC (fun k e e2 => h.ne (by rw [ownBlock_slice] at e; rw [e, e2])), Nat.le_refl _, h.b0, h.b1, h.n1⟩, hC.mono (fun k e => .inl e), fun k e => .inl (.inr e)⟩
set_option maxHeartbeats 400000 in
theorem areaAppend_any {g : Nat} {A : Option Addr} {c : Nat} {base : Int} {bs : List UInt8} {s : Nat} {w : World} (h : Ar w g A c base bs s) (B : Option Addr) (m mc : Nat) (b : List UInt8) (hb : Bytes w B m b)
    (hm : bs.length + m ≤ 214748364800000) (hend : base + bs.length + m ≤ 4612811918334230528) :
    Calls Try.prog 49 #[.pointer (some ⟨g, 0, none⟩), .slice B m mc] w (ArTo w (arF g A) g base (bs ++ b) s 0) := by
  have c1 : w.cell? ⟨g, 1, none⟩ = _ := h.blk.cell 1
  simp at c1
  have HL := Lib.hid hb.1
  have hO := h.own
  have hR := hb.rdc
  go_enter Try.func49, Try.ntmps49
  go_wp2_with (at_builtin; refine wpl_append _ rfl _ _ 30 rfl 0 5 _ 1 1 Try.underlying30 info_byte7 rfl (by decide) (.slice A bs.length c) bs.length _ rfl hO B m mc (bvals b) rfl hR (bvals_one b) (by decide) (by decide) (by omega) (by simp) ?_; intro A' c' w1 hown hgr hne hnn; have hB1 := Blk.grown h.blk hgr (own_not_blk7 hO h.blk (by decide)); have f1 := hB1.frozen 1; have d1 : w1.cell? ⟨g, 1, none⟩ = some (.slice A bs.length c) := hB1.cell 1; clear hnn)
  have hl2 : (bs ++ b).length = bs.length + m := by rw [List.length_append, HL.out]
  have hS := hB1.set 1 (.slice A' (bs.length + m) c')
  have hC : Chg (arF g A) w w1 := (chg_grown hgr).mono (fun k e => .inr (by rw [ownBlock_slice] at e; exact e))
  have hC2 := hC.set (g := g) (.inl (.inl rfl)) 1 (.slice A' (bs.length + m) c')
  have hnb := own_not_blk7 hown hB1 (by decide)
  have hown2 := own_chg hown (chg_set w1 g 1 (.slice A' (bs.length + m) c')) (fun k e e2 => hnb (by rw [e, e2]))
  rw [← bvals_append] at hown2
  go_ret
  refine ⟨rfl, A', c', ⟨by rw [hl2]; exact hS, by rw [hl2]; exact hown2, by have := h.sle; omega, h.b0, by rw [hl2]; push_cast; omega, by omega⟩, hC2, fun k e => ?_⟩
  rw [ownBlock_slice, ownBlock_slice] at hne
  rcases hne with e2 | ⟨k2, e2, e3⟩
  · exact .inl (.inr (by rw [← e2]; exact e))
  · exact .inr (by rw [e2] at e; injection e with e; omega)
theorem cut_end {w w2 : World} {g : Nat} {A : Option Addr} {c : Nat} {base : Int} {bs : List UInt8} {s k x : Nat} (h : Ar w g A c base bs s) (hk : k ≤ bs.length) (hC : Chg (arF g A) w w2) (hB : Blk w2 g #[.int .i64 base, .slice A k c, .int .i64 s] 116)
    (hO : w2.ownsRow 0 5 1 (.slice A k c) k (bvals (bs.take k))) (hx : x = min s k) : ArTo w (arF g A) g base (bs.take k) (min s k) 0 (.returned (.int .i64 0)) (w2.setCell ⟨g, 2, none⟩ (.int .i64 x)).drew := by
  subst hx
  have hl : (bs.take k).length = k := by rw [List.length_take]; omega
  have hS := hB.set 2 (.int .i64 ((min s k : Nat) : Int))
  have hO2 := own_chg hO (chg_set w2 g 2 (.int .i64 ((min s k : Nat) : Int))) (fun q e e2 => h.ne (by rw [ownBlock_slice] at e; rw [e, e2]))
  refine ⟨rfl, A, c, ⟨by rw [hl]; exact hS, by rw [hl]; exact hO2, by rw [hl]; omega, h.b0, by rw [hl]; have := h.b1; omega, by rw [hl]; have := h.n1; omega⟩, ?_, fun q e => .inl (.inr e)⟩
  exact (hC.set (.inl (.inl rfl)) 2 _).then_ (below_drew7 _ 1)
set_option maxHeartbeats 800000 in
theorem areaCut_any {g : Nat} {A : Option Addr} {c : Nat} {base : Int} {bs : List UInt8} {s : Nat} {w : World} (hA : Ar w g A c base bs s) (k : Nat) (hk : k ≤ bs.length) :
    Calls Try.prog 63 #[.pointer (some ⟨g, 0, none⟩), .int .i64 (base + k)] w (ArTo w (arF g A) g base (bs.take k) (min s k) 0) := by
  have c0 : w.cell? ⟨g, 0, none⟩ = _ := hA.blk.cell 0
  have c1 : w.cell? ⟨g, 1, none⟩ = _ := hA.blk.cell 1
  have c2 : w.cell? ⟨g, 2, none⟩ = _ := hA.blk.cell 2
  have f1 := hA.blk.frozen 1
  have f2 := hA.blk.frozen 2
  simp at c0 c1 c2
  have hb0 := hA.b0
  have hb1 := hA.b1
  have hn1 := hA.n1
  have hs := hA.sle
  have hcap := hA.cap
  have t1 : decide (base + (k : Int) < base) = false := decide_eq_false (by omega)
  have t2 : decide (base + (bs.length : Int) < base + (k : Int)) = false := decide_eq_false (by omega)
  go_enter Try.func63, Try.ntmps63
  go_wp2_with fail
  go_quiet (fail)
  go_wp2_with fail
  go_region
  have hC2 : Chg (arF g A) w ((w.drewN (nq + 1)).setCell ⟨g, 1, none⟩ (.slice A k c)) := (chg_below (below_drew7 w (nq + 1)) _).set (.inl (.inl rfl)) 1 _
  have hB2 : Blk ((w.drewN (nq + 1)).setCell ⟨g, 1, none⟩ (.slice A k c)) g #[.int .i64 base, .slice A k c, .int .i64 s] 116 := Blk.set (w := w.drewN (nq + 1)) hA.blk 1 (.slice A k c)
  have hO2 := own_cut (own_chg hA.own ((chg_below (below_drew7 w (nq + 1)) (fun k => k = g)).set (.inl rfl) 1 (.slice A k c)) (fun k e e2 => hA.ne (by rw [ownBlock_slice] at e; rw [e, e2]))) k hk
  simp only [show base + (k : Int) - base = k by omega, Int.toNat_natCast]
  generalize (w.drewN (nq + 1)).setCell ⟨g, 1, none⟩ (.slice A k c) = w2 at *
  clear c0 c1 c2 f1 f2
  have c0 : w2.cell? ⟨g, 0, none⟩ = _ := hB2.cell 0
  have c1 : w2.cell? ⟨g, 1, none⟩ = _ := hB2.cell 1
  have c2 : w2.cell? ⟨g, 2, none⟩ = _ := hB2.cell 2
  have f2 := hB2.frozen 2
  simp at c0 c1 c2
  go_wp2_with fail
  go_region
  go_wp2_with fail
  all_goals
    go_ret
    first | exact cut_end hA hk hC2 hB2 hO2 (by omega) | exact cut_end (x := k) hA hk hC2 hB2 hO2 (by omega)
set_option maxHeartbeats 800000 in
theorem areaCut_no {g : Nat} {A : Option Addr} {c : Nat} {base : Int} {bs : List UInt8} {s : Nat} {w : World} (h : Ar w g A c base bs s) (n : Int) (hk : n < base ∨ base + bs.length < n) :
    Calls Try.prog 63 #[.pointer (some ⟨g, 0, none⟩), .int .i64 n] w (fun e w' => e = .returned (.int .i64 70) ∧ Below w.heap.size w w') := by
  have c0 : w.cell? ⟨g, 0, none⟩ = _ := h.blk.cell 0
  have c1 : w.cell? ⟨g, 1, none⟩ = _ := h.blk.cell 1
  simp at c0 c1
  have hb0 := h.b0
  have hb1 := h.b1
  by_cases t1 : n < base
  · go_enter Try.func63, Try.ntmps63
    go_wp2_with fail
    go_quiet (fail)
    go_wp2_with fail
    go_ret
    exact ⟨rfl, below_drew7 _ _⟩
  · have t2 : base + (bs.length : Int) < n := by omega
    have t1 : decide (n < base) = false := decide_eq_false t1
    clear hk
    go_enter Try.func63, Try.ntmps63
    go_wp2_with fail
    go_quiet (fail)
    go_wp2_with fail
    go_ret
    exact ⟨rfl, below_drew7 _ _⟩

theorem Ar.addr {w : World} {g : Nat} {A : Option Addr} {c : Nat} {base : Int} {bs : List UInt8} {s : Nat} (h : Ar w g A c base bs s) : (A = none ∧ c = 0 ∧ bs = []) ∨ ∃ b, A = some ⟨b, 0, none⟩ := by
  rcases h.own.2 with ⟨h0, hl⟩ | ⟨b, cap, cur, h0, _⟩
  · injection h0 with h1 h2 h3
    exact .inl ⟨h1, h3, List.eq_nil_of_length_eq_zero hl⟩
  · injection h0 with h1 h2 h3
    exact .inr ⟨b, h1⟩
end Go.Proofs.Ytodaplkijdjbpaa
