/- The document's disk in memory; Has, down, with. -/
import Derived.Test.YtodaplkijdjbpaaApt
import Derived.Test.YtodaplkijdjbpaaResults
namespace Go.Proofs.Ytodaplkijdjbpaa
open Go.RowKit
set_option linter.unusedVariables false
set_option linter.unusedSimpArgs false
/-- The seven cells of an area of the document's. -/
def rCells (a : Pa) (B : Option Addr) (c : Nat) : List Value := [.int .i64 a.base, .int .i64 (a.safe : Nat), .int .i64 (a.done : Nat), .slice B a.bs.length c, .int .i64 a.f.d, .int .i64 a.f.k, .int .u8 ((a.f.t.toNat : Nat) : Int)]
theorem rCells_len (a : Pa) (B : Option Addr) (c : Nat) : (rCells a B c).length = 7 := rfl
theorem rCells_one (a : Pa) (B : Option Addr) (c : Nat) : ∀ u ∈ rCells a B c, u.oneCell' = true := by
  intro u hu
  simp only [rCells, List.mem_cons, List.not_mem_nil, or_false] at hu
  rcases hu with rfl | rfl | rfl | rfl | rfl | rfl | rfl <;> rfl
/-- An area of the document's in memory. -/
def RaAt (w : World) (q o : Nat) (a : Pa) (F : Nat → Prop) : Prop :=
  ∃ B c, (∀ i u, (rCells a B c)[i]? = some u → w.cell? ⟨q, o + i, none⟩ = some u) ∧ Out F w B a.bs.length a.bs ∧ a.bs.length ≤ c
/-- The document's disk in memory, all in blocks of F. -/
def RAt (w : World) (A : Option Addr) (P : Pd) (F : Nat → Prop) : Prop := ∃ q, A = some ⟨q, 0, none⟩ ∧ F q ∧ ∀ j, j < P.n → RaAt w q (j * 7) (P.p j) F
/-- F and the blocks that are new. -/
def New (F : Nat → Prop) (w w' : World) : Nat → Prop := fun k => F k ∨ (w.heap.size ≤ k ∧ k < w'.heap.size)
theorem New.sub {F : Nat → Prop} {w w' : World} : ∀ k, F k → New F w w' k := fun _ e => .inl e
theorem New.trans {F : Nat → Prop} {w w1 w2 : World} (h1 : w.heap.size ≤ w1.heap.size) (h2 : w1.heap.size ≤ w2.heap.size) : ∀ k, New (New F w w1) w1 w2 k → New F w w2 k := by
  rintro k ((e | ⟨e1, e2⟩) | ⟨e1, e2⟩)
  · exact .inl e
  · exact .inr ⟨e1, by omega⟩
  · exact .inr ⟨by omega, e2⟩
theorem New.wide {F : Nat → Prop} {w w1 w2 w3 : World} (h1 : w.heap.size ≤ w1.heap.size) (h2 : w2.heap.size ≤ w3.heap.size) : ∀ k, New F w1 w2 k → New F w w3 k := by
  rintro k (e | ⟨e1, e2⟩)
  · exact .inl e
  · exact .inr ⟨by omega, by omega⟩
theorem RaAt.mono {w : World} {q o : Nat} {a : Pa} {F F' : Nat → Prop} (h : RaAt w q o a F) (hs : ∀ k, F k → F' k) : RaAt w q o a F' := by
  obtain ⟨B, c, h1, h2, h3⟩ := h
  exact ⟨B, c, h1, h2.mono hs, h3⟩
theorem RaAt.chg {w w1 : World} {q o : Nat} {a : Pa} {F : Nat → Prop} (h : RaAt w q o a F) (hq : F q) (hc : Chg (fun k => ¬ F k) w w1) : RaAt w1 q o a F := by
  obtain ⟨B, c, h1, h2, h3⟩ := h
  exact ⟨B, c, fun i u hu => hc.cell (h1 i u hu) (fun e => e hq), h2.chg hc, h3⟩
section
variable {w w1 : World} {A : Option Addr} {P : Pd} {F F' : Nat → Prop}
theorem RAt.mono (h : RAt w A P F) (hs : ∀ k, F k → F' k) : RAt w A P F' := by
  obtain ⟨q, h1, h2, h3⟩ := h
  exact ⟨q, h1, hs q h2, fun j hj => (h3 j hj).mono hs⟩
theorem RAt.chg (h : RAt w A P F) (hc : Chg (fun k => ¬ F k) w w1) : RAt w1 A P F := by
  obtain ⟨q, h1, h2, h3⟩ := h
  exact ⟨q, h1, h2, fun j hj => (h3 j hj).chg h2 hc⟩
theorem RAt.below (h : RAt w A P F) (hb : Below w.heap.size w w1) : RAt w1 A P F := h.chg (chg_below hb _)
/-- One area's cells. -/
theorem RAt.at_ (h : RAt w A P F) (j : Nat) (hj : j < P.n) :
    ∃ q B c, A = some ⟨q, 0, none⟩ ∧ w.cell? ⟨q, j * 7, none⟩ = some (.int .i64 (P.p j).base) ∧ w.cell? ⟨q, j * 7 + 1, none⟩ = some (.int .i64 ((P.p j).safe : Nat)) ∧ w.cell? ⟨q, j * 7 + 2, none⟩ = some (.int .i64 ((P.p j).done : Nat)) ∧
      w.cell? ⟨q, j * 7 + 3, none⟩ = some (.slice B (P.p j).bs.length c) ∧ w.cell? ⟨q, j * 7 + 4, none⟩ = some (.int .i64 (P.p j).f.d) ∧ w.cell? ⟨q, j * 7 + 5, none⟩ = some (.int .i64 (P.p j).f.k) ∧ w.cell? ⟨q, j * 7 + 6, none⟩ = some (.int .u8 (((P.p j).f.t.toNat : Nat) : Int)) ∧
      Out F w B (P.p j).bs.length (P.p j).bs ∧ (P.p j).bs.length ≤ c := by
  obtain ⟨q, h1, h2, h3⟩ := h
  obtain ⟨B, c, k1, k2, k3⟩ := h3 j hj
  exact ⟨q, B, c, h1, k1 0 _ rfl, k1 1 _ rfl, k1 2 _ rfl, k1 3 _ rfl, k1 4 _ rfl, k1 5 _ rfl, k1 6 _ rfl, k2, k3⟩
/-- All of it is to be read. -/
theorem RAt.rdc (h : RAt w A P F) : ∃ q vs, A = some ⟨q, 0, none⟩ ∧ RdC w A (P.n * 7) vs ∧ (∀ u ∈ vs, u.oneCell' = true) ∧ ∀ j, j < P.n → ∃ B c, (∀ i u, (rCells (P.p j) B c)[i]? = some u → vs[j * 7 + i]? = some u) ∧ Out F w B (P.p j).bs.length (P.p j).bs ∧ (P.p j).bs.length ≤ c := by
  obtain ⟨q, h1, h2, h3⟩ := h
  have key : ∀ k, k < P.n * 7 → ∃ u, w.cell? ⟨q, k, none⟩ = some u ∧ u.oneCell' = true := by
    intro k hk
    obtain ⟨B, c, k1, _⟩ := h3 (k / 7) (by omega)
    have hm : k % 7 < (rCells (P.p (k / 7)) B c).length := by rw [rCells_len]; omega
    refine ⟨_, ?_, rCells_one _ _ _ _ (List.getElem_mem hm)⟩
    have := k1 (k % 7) _ (List.getElem?_eq_getElem hm)
    rwa [show k / 7 * 7 + k % 7 = k by omega] at this
  have at_ : ∀ k, k < P.n * 7 → ((List.range (P.n * 7)).map fun k => (w.cell? ⟨q, k, none⟩).getD undef)[k]? = w.cell? ⟨q, k, none⟩ := by
    intro k hk
    obtain ⟨u, hu, _⟩ := key k hk
    simp [hk, hu]
  refine ⟨q, (List.range (P.n * 7)).map fun k => (w.cell? ⟨q, k, none⟩).getD undef, h1, ⟨by simp, fun j u hj => ?_⟩, fun u hu => ?_, fun j hj => ?_⟩
  · have hlt : j < P.n * 7 := by
      have := (List.getElem?_eq_some_iff.1 hj).1
      simpa using this
    rw [at_ j hlt] at hj
    exact ⟨_, h1, by rw [add_plain, Nat.zero_add]; exact hj⟩
  · rw [List.mem_map] at hu
    obtain ⟨k, hk, rfl⟩ := hu
    rw [List.mem_range] at hk
    obtain ⟨u, hu, hv⟩ := key k hk
    rw [hu]
    exact hv
  · obtain ⟨B, c, k1, k2, k3⟩ := h3 j hj
    refine ⟨B, c, fun i u hu => ?_, k2, k3⟩
    have hi : i < 7 := by have := (List.getElem?_eq_some_iff.1 hu).1; rwa [rCells_len] at this
    rw [at_ _ (by omega)]
    exact k1 i u hu
end
/-- A row of which the call owns at least one element lies in one block. -/
theorem own_blk {w : World} {B : Nat} {e : TypeId} {sz n c : Nat} {A : Option Addr} {xs : List Value} (h : w.ownsRow B e sz (.slice A n c) n xs) (h0 : n ≠ 0) : ∃ g cs, A = some ⟨g, 0, none⟩ ∧ B ≤ g ∧ Blk w g cs e ∧ n * sz ≤ cs.size ∧ ∀ j, j < n * sz → cs[j]? = xs[j]? := by
  rcases h.2 with ⟨_, e⟩ | ⟨g, cap, cur, hv, hb, hg, hnc, hcm, hcs, ht⟩
  · exact absurd e h0
  · injection hv with e1 e2 e3
    refine ⟨g, cur, e1, hb, hg, by rw [hcs]; exact Nat.mul_le_mul_right _ hnc, fun j hj => ?_⟩
    have := h.1
    rw [← ht, List.getElem?_take, if_pos hj, Array.getElem?_toList]
/-- Seven cells are written. -/
def set7 (w : World) (g o : Nat) (a : Pa) (B : Option Addr) (c : Nat) : World :=
  ((((((w.setCell ⟨g, o, none⟩ (.int .i64 a.base)).setCell ⟨g, o + 1, none⟩ (.int .i64 (a.safe : Nat))).setCell ⟨g, o + 2, none⟩ (.int .i64 (a.done : Nat))).setCell ⟨g, o + 3, none⟩ (.slice B a.bs.length c)).setCell ⟨g, o + 4, none⟩ (.int .i64 a.f.d)).setCell ⟨g, o + 5, none⟩ (.int .i64 a.f.k)).setCell ⟨g, o + 6, none⟩ (.int .u8 ((a.f.t.toNat : Nat) : Int))
def set7c (cs : Array Value) (o : Nat) (a : Pa) (B : Option Addr) (c : Nat) : Array Value :=
  ((((((cs.setIfInBounds o (.int .i64 a.base)).setIfInBounds (o + 1) (.int .i64 (a.safe : Nat))).setIfInBounds (o + 2) (.int .i64 (a.done : Nat))).setIfInBounds (o + 3) (.slice B a.bs.length c)).setIfInBounds (o + 4) (.int .i64 a.f.d)).setIfInBounds (o + 5) (.int .i64 a.f.k)).setIfInBounds (o + 6) (.int .u8 ((a.f.t.toNat : Nat) : Int))
theorem blk_set7 {w : World} {g o : Nat} {cs : Array Value} {t : TypeId} (h : Blk w g cs t) (a : Pa) (B : Option Addr) (c : Nat) : Blk (set7 w g o a B c) g (set7c cs o a B c) t :=
  ((((((h.set _ _).set _ _).set _ _).set _ _).set _ _).set _ _).set _ _
theorem chg_set7 (w : World) (g o : Nat) (a : Pa) (B : Option Addr) (c : Nat) : Chg (fun k => k = g) w (set7 w g o a B c) :=
  ((((((chg_set w g o _).set (.inl rfl) _ _).set (.inl rfl) _ _).set (.inl rfl) _ _).set (.inl rfl) _ _).set (.inl rfl) _ _).set (.inl rfl) _ _
theorem set7c_off (cs : Array Value) (o : Nat) (a : Pa) (B : Option Addr) (c j : Nat) (h : j < o ∨ o + 7 ≤ j) : (set7c cs o a B c)[j]? = cs[j]? := by
  unfold set7c
  rw [set_off (by omega), set_off (by omega), set_off (by omega), set_off (by omega), set_off (by omega), set_off (by omega), set_off (by omega)]
theorem set7c_at (cs : Array Value) (o : Nat) (a : Pa) (B : Option Addr) (c : Nat) (h : o + 7 ≤ cs.size) (i : Nat) (u : Value) (hu : (rCells a B c)[i]? = some u) : (set7c cs o a B c)[o + i]? = some u := by
  have hi : i < 7 := by have := (List.getElem?_eq_some_iff.1 hu).1; rwa [rCells_len] at this
  unfold set7c
  match i, hi, hu with
  | 0, _, hu =>
    obtain rfl := Option.some.inj (show some (.int .i64 a.base) = some u from hu)
    simp only [Nat.add_zero]
    rw [set_off (by omega), set_off (by omega), set_off (by omega), set_off (by omega), set_off (by omega), set_off (by omega), set_at (by omega)]
  | 1, _, hu =>
    obtain rfl := Option.some.inj (show some (.int .i64 (a.safe : Nat)) = some u from hu)
    rw [set_off (by omega), set_off (by omega), set_off (by omega), set_off (by omega), set_off (by omega), set_at (by simp only [Array.size_setIfInBounds]; omega)]
  | 2, _, hu =>
    obtain rfl := Option.some.inj (show some (.int .i64 (a.done : Nat)) = some u from hu)
    rw [set_off (by omega), set_off (by omega), set_off (by omega), set_off (by omega), set_at (by simp only [Array.size_setIfInBounds]; omega)]
  | 3, _, hu =>
    obtain rfl := Option.some.inj (show some (.slice B a.bs.length c) = some u from hu)
    rw [set_off (by omega), set_off (by omega), set_off (by omega), set_at (by simp only [Array.size_setIfInBounds]; omega)]
  | 4, _, hu =>
    obtain rfl := Option.some.inj (show some (.int .i64 a.f.d) = some u from hu)
    rw [set_off (by omega), set_off (by omega), set_at (by simp only [Array.size_setIfInBounds]; omega)]
  | 5, _, hu =>
    obtain rfl := Option.some.inj (show some (.int .i64 a.f.k) = some u from hu)
    rw [set_off (by omega), set_at (by simp only [Array.size_setIfInBounds]; omega)]
  | 6, _, hu =>
    obtain rfl := Option.some.inj (show some (.int .u8 ((a.f.t.toNat : Nat) : Int)) = some u from hu)
    rw [set_at (by simp only [Array.size_setIfInBounds]; omega)]
/-- The disk with one area anew. -/
theorem RAt.set {w : World} {g : Nat} {cs : Array Value} {t : TypeId} {P : Pd} {F : Nat → Prop} (hF : F g) (hz : P.n * 7 ≤ cs.size) (i : Nat) (hi : i < P.n) (a : Pa) (B : Option Addr) (c : Nat)
    (hj : ∀ j, j < P.n → ∃ B c, (∀ i u, (rCells (P.p j) B c)[i]? = some u → cs[j * 7 + i]? = some u) ∧ Out F w B (P.p j).bs.length (P.p j).bs ∧ (P.p j).bs.length ≤ c)
    {w1 : World} (h1 : Blk w1 g (set7c cs (i * 7) a B c) t) (ho : ∀ B (bs : List UInt8), Out F w B bs.length bs → Out F w1 B bs.length bs) (ha : Out F w B a.bs.length a.bs) (hc : a.bs.length ≤ c) : RAt w1 (some ⟨g, 0, none⟩) (P.set i a) F := by
  refine ⟨g, rfl, hF, fun j hj' => ?_⟩
  have hj2 : j < P.n := hj'
  by_cases e : j = i
  · subst e
    simp only [Pd.set, upd_same]
    exact ⟨B, c, fun k u hu => (h1.cell _).trans (set7c_at cs (j * 7) a B c (by omega) k u hu), ho _ _ ha, hc⟩
  · simp only [Pd.set, upd_other _ _ _ _ e]
    obtain ⟨B', c', k1, k2, k3⟩ := hj j hj2
    refine ⟨B', c', fun k u hu => ?_, ho _ _ k2, k3⟩
    have hk : k < 7 := by have := (List.getElem?_eq_some_iff.1 hu).1; rwa [rCells_len] at this
    rw [h1.cell, set7c_off _ _ _ _ _ _ (by omega)]
    exact k1 k u hu
section
variable {w : World} {A : Option Addr} {P : Pd} {F : Nat → Prop}
theorem refHas_any (A : Option Addr) (n c : Nat) (v : Value) (i : Int) (w : World) (hn : n ≤ 16) :
    Calls Try.prog 70 #[.agg #[.slice A n c, v], .int .i64 i] w fun e w' => e = .returned (.bool (decide (0 ≤ i ∧ i < n))) ∧ Below w.heap.size w w' := by
  have hB1 := below_alloc w (.cells #[.slice A n c, v] 48)
  by_cases h0 : 0 ≤ i
  · by_cases h1 : i < n
    · rw [decide_eq_true (And.intro h0 h1)]
      go_enter Try.func70, Try.ntmps70
      go_wp2_with fail
      go_ret
      exact ⟨rfl, hB1⟩
    · rw [decide_eq_false (fun e => h1 e.2)]
      have h1' : decide (i < (n : Int)) = false := decide_eq_false h1
      go_enter Try.func70, Try.ntmps70
      go_wp2_with fail
      go_ret
      exact ⟨rfl, hB1⟩
  · rw [decide_eq_false (fun e => h0 e.1)]
    have h0' : decide (0 ≤ i) = false := decide_eq_false h0
    go_enter Try.func70, Try.ntmps70
    go_wp2_with fail
    go_ret
    exact ⟨rfl, hB1⟩
/-- What refuses an operation. -/
def Pd.downE (P : Pd) (i : Int) : Int := if i < 0 ∨ (P.n : Int) ≤ i then 81 else if P.down i.toNat then 80 else 0
set_option maxHeartbeats 800000 in
theorem refDown_any (h : RAt w A P F) (hn : P.n ≤ 16) (c : Nat) (i : Int) :
    Calls Try.prog 68 #[.agg #[.slice A P.n c, .bool P.armed], .int .i64 i] w fun e w' => e = .returned (.int .i64 (P.downE i)) ∧ Below w.heap.size w w' := by
  have x1 := below_alloc w (.cells #[.slice A P.n c, .bool P.armed] 48)
  have b1 := Blk.fresh w #[.slice A P.n c, .bool P.armed] 48
  have r1 := h.below x1
  have HX := Lib.hid x1
  unfold Pd.downE Pd.down
  generalize hw1 : w.alloc (.cells #[.slice A P.n c, .bool P.armed] 48) = w1 at *
  by_cases hi : i < 0 ∨ (P.n : Int) ≤ i
  · rw [if_pos hi]
    have hd : decide (0 ≤ i ∧ i < (P.n : Int)) = false := decide_eq_false (by omega)
    generalize P.armed = ar at *
    generalize P.n = n at *
    have c0 : w1.cell? ⟨w.heap.size, 0, none⟩ = some (.slice A n c) := b1.cell 0
    have c1 : w1.cell? ⟨w.heap.size, 1, none⟩ = some (.bool ar) := b1.cell 1
    clear x1 b1 r1 h
    go_enter Try.func68, Try.ntmps68
    go_wp2_with fail
    refine (refHas_any A n c _ i w1 hn).mono ?_
    rintro e w2 ⟨rfl, hb2⟩
    rw [hd]
    go_wp2_with fail
    go_ret
    exact ⟨rfl, below_then HX.out hb2 HX.out.size⟩
  · rw [if_neg hi]
    obtain ⟨j, rfl⟩ : ∃ j : Nat, i = j := ⟨i.toNat, by omega⟩
    have hj : j < P.n := by omega
    rw [Int.toNat_natCast]
    have hd : decide (0 ≤ (j : Int) ∧ (j : Int) < (P.n : Int)) = true := decide_eq_true (by omega)
    have HR := Lib.hid r1
    have HN := Lib.hid (And.intro hn hj)
    obtain ⟨r, hr⟩ : ∃ r : Int, (if (P.armed && decide ((P.p j).f.d ≤ ((P.p j).done : Int))) = true then (80 : Int) else 0) = r := ⟨_, rfl⟩
    rw [hr]
    have HRR := Lib.hid hr
    clear hr
    obtain ⟨ar, har⟩ : ∃ ar, P.armed = ar := ⟨_, rfl⟩
    rw [har] at b1 hw1 HRR ⊢
    have c0 : w1.cell? ⟨w.heap.size, 0, none⟩ = some (.slice A P.n c) := b1.cell 0
    have c1 : w1.cell? ⟨w.heap.size, 1, none⟩ = some (.bool ar) := b1.cell 1
    have HB := Lib.hid b1
    clear x1 b1 r1 h
    go_enter Try.func68, Try.ntmps68
    go_wp2_with fail
    refine (refHas_any A P.n c _ j w1 hn).mono ?_
    rintro e w2 ⟨rfl, hb2⟩
    rw [hd]
    clear c0 c1
    have c0 : w2.cell? ⟨w.heap.size, 0, none⟩ = some (.slice A P.n c) := (HB.out.keep hb2).cell 0
    have c1 : w2.cell? ⟨w.heap.size, 1, none⟩ = some (.bool ar) := (HB.out.keep hb2).cell 1
    obtain ⟨q, B, cc, rfl, a0, a1, a2, a3, a4, a5, a6, a7, a8⟩ := (HR.out.below hb2).at_ j HN.out.2
    have hBB := Lib.hid (below_then HX.out hb2 HX.out.size)
    generalize (P.p j).f.d = fd at *
    generalize (P.p j).done = dn at *
    have j0 : (0 : Int) ≤ (j : Int) := by omega
    have j1 : (j : Int) < (P.n : Int) := by omega
    generalize P.n = n at *
    clear hb2 hw1 har hd hi hj
    cases ar with
    | false =>
      go_wp2_with fail
      go_quiet (fail)
      go_wp2_with fail
      go_ret
      exact ⟨by rw [← HRR.out]; rfl, hBB.out.trans ((below_drew7 _ _).mono hBB.out.size)⟩
    | true =>
      by_cases hf : fd ≤ (dn : Int)
      · have hf1 : decide (fd ≤ (dn : Int)) = true := decide_eq_true hf
        go_wp2_with fail
        go_quiet (fail)
        go_wp2_with fail
        go_ret
        exact ⟨by rw [← HRR.out]; simp [hf], hBB.out.trans ((below_drew7 _ _).mono hBB.out.size)⟩
      · have hf1 : decide (fd ≤ (dn : Int)) = false := decide_eq_false hf
        go_wp2_with fail
        go_quiet (fail)
        go_wp2_with fail
        go_ret
        exact ⟨by rw [← HRR.out]; simp [hf], hBB.out.trans ((below_drew7 _ _).mono hBB.out.size)⟩
end
end Go.Proofs.Ytodaplkijdjbpaa
