/- Package disk, walked: New. -/
import Derived.Test.YtodaplkijdjbpaaDisk
import Derived.Laws.OwnMore
namespace Go.Proofs.Ytodaplkijdjbpaa
open Go.RowKit
set_option linter.unusedVariables false
set_option linter.unusedSimpArgs false
def Pd.new (n : Nat) : Pd := ⟨n, fun _ => Pa.new, false⟩
/-- The parts while New makes the areas. -/
structure Half (W : World) (G pb n k : Nat) (gs : Nat → Nat) (cs : Array Value) : Prop where
  hd : Blk W G #[.slice (some ⟨pb, 0, none⟩) n n, .bool false] 83
  ps : Blk W pb cs 87
  sz : cs.size = n * 5
  p0 : ∀ j, j < k → cs[j * 5]? = some (.pointer (some ⟨gs j, 0, none⟩))
  p1 : ∀ j, k ≤ j → j < n → cs[j * 5]? = some (.pointer none)
  c1 : ∀ j, j < n → cs[j * 5 + 1]? = some (.int .i64 0) ∧ cs[j * 5 + 2]? = some (.int .i64 0) ∧ cs[j * 5 + 3]? = some (.int .u8 0) ∧ cs[j * 5 + 4]? = some (.int .i64 0)
  ar : ∀ j, j < k → Ar W (gs j) none 0 0 [] 0
  ne : ∀ i j, i < k → j < k → i ≠ j → gs i ≠ gs j
theorem Half.below {W W' : World} {G pb n k : Nat} {gs : Nat → Nat} {cs : Array Value} (h : Half W G pb n k gs cs) (hb : Below W.heap.size W W') : Half W' G pb n k gs cs :=
  ⟨h.hd.keep hb, h.ps.keep hb, h.sz, h.p0, h.p1, h.c1, fun j hj => (h.ar j hj).below hb, h.ne⟩
theorem Half.next {W : World} {G pb n k : Nat} {gs : Nat → Nat} {cs : Array Value} (h : Half W G pb n k gs cs) (hk : k < n) {W1 : World} {g : Nat} (hb : Below W.heap.size W W1) (ha : Ar W1 g none 0 0 [] 0) (hg : W.heap.size ≤ g) :
    Half (W1.setCell ⟨pb, k * 5, none⟩ (.pointer (some ⟨g, 0, none⟩))) G pb n (k + 1) (upd gs k g) (cs.setIfInBounds (k * 5) (.pointer (some ⟨g, 0, none⟩))) := by
  have h1 := h.below hb
  have hc := chg_set W1 pb (k * 5) (.pointer (some ⟨g, 0, none⟩))
  have hs := h.sz
  have hGp := blk_type h.hd h.ps (by decide)
  refine ⟨h1.hd.chg hc hGp, h1.ps.set _ _, by rw [Array.size_setIfInBounds]; exact hs, fun j hj => ?_, fun j hj hj2 => ?_, fun j hj => ?_, fun j hj => ?_, fun i j hi hj hne => ?_⟩
  · by_cases e : j = k
    · subst e; rw [set_at (by omega), upd_same]
    · rw [set_off (by omega), upd_other _ _ _ _ e]; exact h.p0 j (by omega)
  · rw [set_off (by omega)]; exact h.p1 j (by omega) hj2
  · rw [set_off (by omega), set_off (by omega), set_off (by omega), set_off (by omega)]; exact h.c1 j hj
  · by_cases e : j = k
    · subst e; rw [upd_same]
      exact ha.chg hc (fun q e e2 => by
        rcases e with rfl | e
        · exact blk_type ha.blk h1.ps (by decide) e2
        · cases e)
    · rw [upd_other _ _ _ _ e]
      exact (h1.ar j (by omega)).chg hc (fun q e e2 => by
        rcases e with rfl | e
        · exact blk_type (h1.ar j (by omega)).blk h1.ps (by decide) e2
        · cases e)
  · by_cases e1 : i = k
    · subst e1
      rw [upd_same, upd_other _ _ _ _ (fun e => hne e.symm)]
      have := (h.ar j (by omega)).lt
      omega
    · rw [upd_other _ _ _ _ e1]
      by_cases e2 : j = k
      · subst e2
        rw [upd_same]
        have := (h.ar i (by omega)).lt
        omega
      · rw [upd_other _ _ _ _ e2]
        exact h.ne i j (by omega) (by omega) hne
theorem Half.done {W : World} {G pb n : Nat} {gs : Nat → Nat} {cs : Array Value} (h : Half W G pb n n gs cs) (h0 : 1 ≤ n) (h1 : n ≤ 16) (K : Nat) : DAt W G pb (fun j => ⟨gs j, none, 0⟩) (Pd.new n) K :=
  ⟨h.hd, ⟨cs, h.ps, h.sz, h.p0, fun j hj => (h.c1 j hj).1, fun j hj => (h.c1 j hj).2.1, fun j hj => (h.c1 j hj).2.2.1, fun j hj => (h.c1 j hj).2.2.2⟩, h.ar, (fun i j hi hj hne k e e2 => by
    rcases e with e | e
    · rcases e2 with e2 | e2
      · exact h.ne i j hi hj hne (e.symm.trans e2)
      · cases e2
    · cases e), ⟨h0, h1, fun j hj => ⟨Nat.zero_le _, by simp [Pd.new, Pa.new], by simp [Pd.new, Pa.new]; omega, by simp [Pd.new, Pa.new], by simp [Pd.new, Pa.new], by simp [Pd.new, Pa.new, Ft.ok, Ft.no]⟩⟩⟩
/-- What New answers. -/
def NewTo (n : Nat) (w : World) (e : Ending) (w' : World) : Prop :=
  ∃ G pb, ∃ gs : Nat → Nat, e = .returned (.tuple #[.pointer (some ⟨G, 0, none⟩), .int .i64 0]) ∧ (∀ K, DAt w' G pb (fun j => ⟨gs j, none, 0⟩) (Pd.new n) K) ∧ Below w.heap.size w w' ∧ ∀ k, dF G pb (fun j => ⟨gs j, none, 0⟩) n k → w.heap.size ≤ k
theorem diskNew_no (i : Int) (w : World) (h : i < 1 ∨ 16 < i) :
    Calls Try.prog 14 #[.int .i64 i] w fun e w' => e = .returned (.tuple #[.pointer none, .int .i64 2]) ∧ w = w' := by
  by_cases h1 : i < 1
  · have d1 : decide (i < 1) = true := decide_eq_true h1
    go_enter Try.func14, Try.ntmps14
    go_wp2
    go_ret2
    exact ⟨rfl, rfl⟩
  · have d1 : decide (i < 1) = false := decide_eq_false h1
    have d2 : decide (16 < i) = true := decide_eq_true (by omega)
    go_enter Try.func14, Try.ntmps14
    go_wp2
    go_ret2
    exact ⟨rfl, rfl⟩
theorem info_part : (Try.prog.info? 87).map (fun i => (i.zero, i.size, i.bytes)) = some (some (.agg #[.pointer none, .int .i64 0, .int .i64 0, .int .u8 0, .int .i64 0]), 5, 40) := by kernel_rfl
theorem areaNew2 (w : World) : Calls Try.prog 37 #[] w fun e w' => ∃ g, e = .returned (.pointer (some ⟨g, 0, none⟩)) ∧ Ar w' g none 0 0 [] 0 ∧ Below w.heap.size w w' ∧ w.heap.size ≤ g := by
  refine (areaNew_any w).mono ?_
  rintro e w' ⟨rfl, rfl⟩
  exact ⟨_, rfl, ar_zero w, below_alloc _ _, Nat.le_refl _⟩
theorem made_at (z : Array Value) (m i : Nat) (hi : i < m) : (madeCells z m)[i]? = some z[i % z.size]! := by simp [madeCells, hi]
/-- A list that was made is a block. -/
theorem made_blk {w : World} {B g n z : Nat} {t : TypeId} {xs : Array Value} (h : w.ownsRow B t z (.slice (some ⟨g, 0, none⟩) n n) n xs.toList) : Blk w g xs t := by
  rcases h.2 with ⟨h0, _⟩ | ⟨g', cap, cur, hv, _, hg, hc, _, hs, ht⟩
  · cases h0
  · injection hv with e1 e2 e3
    injection e1 with e1
    injection e1 with e1
    subst e1 e3
    have : cur = xs := by
      apply Array.ext'
      rw [← ht, List.take_of_length_le (by rw [Array.length_toList, hs]; exact Nat.le_refl _)]
    rw [Blk, hg, this]
set_option maxHeartbeats 1600000 in
theorem diskNew_any (n : Nat) (w : World) (h0 : 1 ≤ n) (h1 : n ≤ 16) :
    Calls Try.prog 14 #[.int .i64 (n : Int)] w (NewTo n w) := by
  obtain ⟨i0, hi, hz0, hz1, hz2⟩ := info_parts info_part
  have d1 : decide ((n : Int) < 1) = false := decide_eq_false (by omega)
  have d2 : decide ((16 : Int) < (n : Int)) = false := decide_eq_false (by omega)
  go_enter Try.func14, Try.ntmps14
  go_wp2_with (at_make; refine wpList_make_full _ rfl (.tmp 12) (.tmp 12) 81 rfl w.heap.size 87 i0 (.agg #[.pointer none, .int .i64 0, .int .i64 0, .int .u8 0, .int .i64 0]) 5 Try.underlying81 hi hz0 hz1 .i64 .i64 _ _ n rfl rfl rfl rfl (by rw [hz2]; omega) (by simp [maxLen]; omega) (Nat.le_refl _) ?_; intro w1 hown hgr)
  have hB1 := below_of_grown hgr (Nat.le_refl _) (fun k h => by cases h)
  have hb1 := made_blk hown
  obtain ⟨cs0, hcs0⟩ : ∃ cs0, madeCells (Value.agg #[.pointer none, .int .i64 0, .int .i64 0, .int .u8 0, .int .i64 0]).cells (n * 5) = cs0 := ⟨_, rfl⟩
  rw [hcs0] at hb1
  have hx := below_alloc w1 (.cells #[.slice (some ⟨w.heap.size, 0, none⟩) n n, .bool false] 83)
  have hH : Half (w1.alloc (.cells #[.slice (some ⟨w.heap.size, 0, none⟩) n n, .bool false] 83)) w1.heap.size w.heap.size n 0 (fun _ => 0) cs0 := by
    refine ⟨Blk.fresh w1 _ _, hb1.keep hx, by rw [← hcs0]; exact size_madeCells _ _, fun j hj => absurd hj (by omega), fun j _ hj => ?_, fun j hj => ⟨?_, ?_, ?_, ?_⟩, fun j hj => absurd hj (by omega), fun i j hi => absurd hi (by omega)⟩
    · rw [← hcs0, made_at _ _ _ (by omega)]; simp [Value.cells]
    · rw [← hcs0, made_at _ _ _ (by omega)]; simp [Value.cells, Nat.add_mod]
    · rw [← hcs0, made_at _ _ _ (by omega)]; simp [Value.cells, Nat.add_mod]
    · rw [← hcs0, made_at _ _ _ (by omega)]; simp [Value.cells, Nat.add_mod]
    · rw [← hcs0, made_at _ _ _ (by omega)]; simp [Value.cells, Nat.add_mod]
  have hG1 : w.heap.size ≤ w1.heap.size := hB1.size
  have hBx := below_then hB1 hx hB1.size
  generalize w1.alloc (.cells #[.slice (some ⟨w.heap.size, 0, none⟩) n n, .bool false] 83) = wx at *
  generalize w1.heap.size = G at *
  clear hown hgr hb1 hx hB1 hi hz0 hz1 hz2 hcs0
  go_loopw [21] (fun i wr => ∃ k : Nat, ∃ gs cs, k ≤ n ∧ i = .int .i64 k ∧ Half wr G w.heap.size n k gs cs ∧ Hid (∀ j, j < k → w.heap.size ≤ gs j) ∧ Below w.heap.size w wr) (fun i _ => n - (intOf i).toNat)
  case atStart => exact ⟨0, _, cs0, Nat.zero_le _, rfl, hH, Lib.hid (fun j hj => absurd hj (by omega)), hBx⟩
  case round =>
    clear hH hBx
    obtain ⟨k, gs, cs, hk, rfl, hH, HL, hB⟩ := hrel
    by_cases hlt : k < n
    · have c0 : wr.cell? ⟨G, 0, none⟩ = some (.slice (some ⟨w.heap.size, 0, none⟩) n n) := hH.hd.cell 0
      have p0 : wr.cell? ⟨w.heap.size, k * 5, none⟩ = some (.pointer none) := (hH.ps.cell _).trans (hH.p1 k (Nat.le_refl _) hlt)
      have hj1 : (k : Int) < (n : Int) := by omega
      go_wp2_with fail
      have hGp : G ≠ w.heap.size := blk_type hH.hd hH.ps (by decide)
      go_region_held3 (fun w' => w'.cell? ⟨G, 0, none⟩ = some (.slice (some ⟨w.heap.size, 0, none⟩) n n))
        (first | exact (World.cell?_setCell_other _ _ _ _ (by simp <;> omega)).trans kA | exact kA | exact c0)
        (first | (go_at_call 37; refine (areaNew2 _).mono ?_; rintro e w7 ⟨g7, rfl, ha7, hb7, hg7⟩; have kC : Below wr.heap.size wr w7 := (Below.refl _ wr).drew.trans hb7; have kA := (kC.cell (p := ⟨G, 0, none⟩) (block_lt_of_cell c0)).trans c0; have kB := (kC.cell (p := ⟨w.heap.size, k * 5, none⟩) (block_lt_of_cell p0)).trans p0; have kF := (hH.ps.keep kC).frozen (k * 5)))
      have hN := hH.next hlt kC ha7 hg7
      have hBN := (below_then hB kC hB.size).setCell (p := ⟨w.heap.size, k * 5, none⟩) (Nat.le_refl _) (.pointer (some ⟨g7, 0, none⟩))
      have hLN : Hid (∀ j, j < k + 1 → w.heap.size ≤ upd gs k g7 j) := Lib.hid (fun j hj => by
        by_cases e : j = k
        · subst e; rw [upd_same]; have h1 := hB.size; have h2 : wr.heap.size ≤ g7 := hg7; omega
        · rw [upd_other _ _ _ _ e]; exact HL.out j (by omega))
      clear ha7 hb7 hg7 kC kA kB kF hH hB HL c0 p0
      go_wp2_with fail
      go_roundw
      case rel => exact ⟨k + 1, _, _, hlt, by go_num, hN, hLN, hBN⟩
      case measure => simp [intOf]; omega
    · obtain rfl : k = n := by omega
      go_wp2_with fail
      go_ret2
      exact ⟨G, w.heap.size, gs, rfl, fun K => hH.done h0 h1 K, hB, fun q e => by
        rcases e with e | e | ⟨j, hj, e⟩
        · omega
        · omega
        · rcases e with e | e
          · have := HL.out j hj; simp only at e; omega
          · cases e⟩
end Go.Proofs.Ytodaplkijdjbpaa
