/- Package disk, walked: arm. -/
import Derived.Test.YtodaplkijdjbpaaOperate
namespace Go.Proofs.Ytodaplkijdjbpaa
open Go.RowKit
set_option linter.unusedVariables false
set_option linter.unusedSimpArgs false
/-- Fates in memory. -/
def FtAt (w : World) (A : Option Addr) (n : Nat) (fs : List Ft) : Prop :=
  fs.length = n ∧ (n = 0 ∨ ∃ b o, A = some ⟨b, o, none⟩ ∧ ∀ j, j < n → w.cell? ⟨b, o + j * 3, none⟩ = some (.int .i64 (fs.getD j Ft.no).d) ∧ w.cell? ⟨b, o + j * 3 + 1, none⟩ = some (.int .i64 (fs.getD j Ft.no).k) ∧ w.cell? ⟨b, o + j * 3 + 2, none⟩ = some (.int .u8 (((fs.getD j Ft.no).t.toNat : Nat) : Int)) ∧ (fs.getD j Ft.no).ok)
theorem FtAt.chg {F : Nat → Prop} {w w1 : World} {A : Option Addr} {n : Nat} {fs : List Ft} (h : FtAt w A n fs) (hc : Chg F w w1) (hn : ∀ k, blkO A = some k → ¬ F k) : FtAt w1 A n fs := by
  refine ⟨h.1, ?_⟩
  rcases h.2 with h0 | ⟨b, o, rfl, hj⟩
  · exact .inl h0
  · refine .inr ⟨b, o, rfl, fun j hjn => ?_⟩
    obtain ⟨h1, h2, h3, h4⟩ := hj j hjn
    have hb : ¬ F b := hn b rfl
    exact ⟨hc.cell h1 hb, hc.cell h2 hb, hc.cell h3 hb, h4⟩
theorem FtAt.below {w w1 : World} {A : Option Addr} {n : Nat} {fs : List Ft} (h : FtAt w A n fs) (hb : Below w.heap.size w w1) : FtAt w1 A n fs := h.chg (chg_below hb (fun _ => False)) (fun _ _ e => e)
theorem Ft.no_ok : Ft.no.ok := by unfold Ft.ok Ft.no; simp
theorem FtAt.ok {w : World} {A : Option Addr} {n : Nat} {fs : List Ft} (h : FtAt w A n fs) (j : Nat) : (fs.getD j Ft.no).ok := by
  by_cases hj : j < n
  · rcases h.2 with h0 | ⟨b, o, _, hc⟩
    · omega
    · exact (hc j hj).2.2.2
  · rw [List.getD_eq_getElem?_getD, List.getElem?_eq_none (by rw [h.1]; omega)]
    exact Ft.no_ok
def Pa.arm (f : Ft) (a : Pa) : Pa := { a with f := f, done := 0 }
/-- The disk with its first k areas armed. -/
def Pd.armK (P : Pd) (fs : List Ft) (k : Nat) : Pd := { P with p := fun j => if j < k then (P.p j).arm (fs.getD j Ft.no) else P.p j }
def Pd.arm (P : Pd) (fs : List Ft) (b : Bool) : Pd := { P with p := fun j => (P.p j).arm (fs.getD j Ft.no), armed := b }
theorem Cells.arm {P : Pd} {ls : Nat → Loc} {cs cs' : Array Value} {fs : List Ft} {k : Nat} (h : Cells (P.armK fs k) ls cs) (hk : k < P.n) (hsz : cs'.size = cs.size) (hoff : ∀ i, i < k * 5 + 1 ∨ k * 5 + 4 < i → cs'[i]? = cs[i]?)
    (h1 : cs'[k * 5 + 1]? = some (.int .i64 (fs.getD k Ft.no).d)) (h2 : cs'[k * 5 + 2]? = some (.int .i64 (fs.getD k Ft.no).k)) (h3 : cs'[k * 5 + 3]? = some (.int .u8 (((fs.getD k Ft.no).t.toNat : Nat) : Int))) (h4 : cs'[k * 5 + 4]? = some (.int .i64 ((0 : Nat) : Int))) : Cells (P.armK fs (k + 1)) ls cs' := by
  have hp : ∀ j, j ≠ k → ((P.armK fs (k + 1)).p j) = ((P.armK fs k).p j) := fun j hj => by
    simp only [Pd.armK]
    by_cases e : j < k
    · rw [if_pos (by omega), if_pos e]
    · rw [if_neg (by omega), if_neg e]
  have hq : (P.armK fs (k + 1)).p k = (P.p k).arm (fs.getD k Ft.no) := by simp [Pd.armK]
  refine ⟨by rw [hsz]; exact h.size, fun j hj => ?_, fun j hj => ?_, fun j hj => ?_, fun j hj => ?_, fun j hj => ?_⟩ <;> (by_cases e : j = k)
  · rw [hoff _ (by omega)]; exact h.ptr j hj
  · rw [hoff _ (by omega)]; exact h.ptr j hj
  · subst e; rw [h1, hq]; rfl
  · rw [hoff _ (by omega), hp j e]; exact h.fd j hj
  · subst e; rw [h2, hq]; rfl
  · rw [hoff _ (by omega), hp j e]; exact h.fk j hj
  · subst e; rw [h3, hq]; rfl
  · rw [hoff _ (by omega), hp j e]; exact h.ft j hj
  · subst e; rw [h4, hq]; rfl
  · rw [hoff _ (by omega), hp j e]; exact h.dn j hj
theorem arm_all {P : Pd} {ls : Nat → Loc} {cs : Array Value} {fs : List Ft} {b : Bool} (h : Cells (P.armK fs P.n) ls cs) : Cells (P.arm fs b) ls cs := by
  have hp : ∀ j, j < P.n → ((P.armK fs P.n).p j) = ((P.arm fs b).p j) := fun j hj => by simp only [Pd.armK, Pd.arm, if_pos hj]
  refine ⟨h.size, h.ptr, fun j hj => ?_, fun j hj => ?_, fun j hj => ?_, fun j hj => ?_⟩
  · rw [← hp j hj]; exact h.fd j hj
  · rw [← hp j hj]; exact h.fk j hj
  · rw [← hp j hj]; exact h.ft j hj
  · rw [← hp j hj]; exact h.dn j hj
set_option maxHeartbeats 1600000 in
theorem arm_any {w : World} {G pb K : Nat} {ls : Nat → Loc} {P : Pd} (h : DAt w G pb ls P K) (A : Option Addr) (n c : Nat) (fs : List Ft) (hf : FtAt w A n fs) (b : Bool) (hA : n ≠ 0 → ∀ k, blkO A = some k → k ≠ G ∧ k ≠ pb) :
    Calls Try.prog 42 #[.pointer (some ⟨G, 0, none⟩), .slice A n c, .bool b] w fun e w' => e = .returned (.tuple #[]) ∧ DTo w G pb ls (P.arm fs b) K w' P.n := by
  obtain ⟨cs, hb, hcs⟩ := h.ps
  have c0 : w.cell? ⟨G, 0, none⟩ = _ := h.hd.cell 0
  simp at c0
  have hn16 := h.lim.n1
  go_enter Try.func42, Try.ntmps42
  go_wp2_with fail
  go_loopw [12] (fun i wr => ∃ k : Nat, ∃ cs, k ≤ P.n ∧ i = .int .i64 k ∧ Blk wr G #[.slice (some ⟨pb, 0, none⟩) P.n P.n, .bool P.armed] 83 ∧ Blk wr pb cs 87 ∧ Hid (Cells (P.armK fs k) ls cs) ∧ Hid (Chg (fun q => q = G ∨ q = pb) w wr)) (fun i _ => P.n - (intOf i).toNat)
  case atStart => exact ⟨0, cs, Nat.zero_le _, rfl, h.hd, hb, Lib.hid hcs, Lib.hid (Chg.refl _ _)⟩
  case round =>
    clear c0 hb hcs
    obtain ⟨k, cs, hk, rfl, hG, hb, HC, HW⟩ := hrel
    by_cases hlt : k < P.n
    · have c0 : wr.cell? ⟨G, 0, none⟩ = some (.slice (some ⟨pb, 0, none⟩) P.n P.n) := hG.cell 0
      have hsz : cs.size = P.n * 5 := HC.out.size
      have hj0 : (0 : Int) ≤ (k : Int) := by omega
      have hj1 : (k : Int) < (P.n : Int) := by omega
      have d1 : wr.cell? ⟨pb, k * 5 + 1, none⟩ = some (.int .i64 _) := (hb.cell _).trans (HC.out.fd k hlt)
      have d2 : wr.cell? ⟨pb, k * 5 + 2, none⟩ = some (.int .i64 _) := (hb.cell _).trans (HC.out.fk k hlt)
      have d3 : wr.cell? ⟨pb, k * 5 + 3, none⟩ = some (.int .u8 _) := (hb.cell _).trans (HC.out.ft k hlt)
      have d4 : wr.cell? ⟨pb, k * 5 + 4, none⟩ = some (.int .i64 _) := (hb.cell _).trans (HC.out.dn k hlt)
      have f0 := hb.frozen
      go_wp2_with fail
      go_region
      have hb4 : Blk ((((wr.setCell ⟨pb, k * 5 + 1, none⟩ (.int .i64 0)).setCell ⟨pb, k * 5 + 1 + 1, none⟩ (.int .i64 0)).setCell ⟨pb, k * 5 + 1 + 2, none⟩ (.int .u8 0)).setCell ⟨pb, k * 5 + 4, none⟩ (.int .i64 0)).drew pb _ 87 := ((((hb.set (k * 5 + 1) (.int .i64 0)).set (k * 5 + 1 + 1) (.int .i64 0)).set (k * 5 + 1 + 2) (.int .u8 0)).set (k * 5 + 4) (.int .i64 0)).drew
      have hC4 : Chg (fun q => q = G ∨ q = pb) wr ((((wr.setCell ⟨pb, k * 5 + 1, none⟩ (.int .i64 0)).setCell ⟨pb, k * 5 + 1 + 1, none⟩ (.int .i64 0)).setCell ⟨pb, k * 5 + 1 + 2, none⟩ (.int .u8 0)).setCell ⟨pb, k * 5 + 4, none⟩ (.int .i64 0)).drew :=
        (Chg.set (F := fun q => q = G ∨ q = pb) (Chg.set (F := fun q => q = G ∨ q = pb) (Chg.set (F := fun q => q = G ∨ q = pb) (Chg.set (F := fun q => q = G ∨ q = pb) (Chg.refl _ _) (.inl (.inr rfl)) _ _) (.inl (.inr rfl)) _ _) (.inl (.inr rfl)) _ _) (.inl (.inr rfl)) _ _).then_ (below_drew7 _ 1)
      have hG4 : Blk ((((wr.setCell ⟨pb, k * 5 + 1, none⟩ (.int .i64 0)).setCell ⟨pb, k * 5 + 1 + 1, none⟩ (.int .i64 0)).setCell ⟨pb, k * 5 + 1 + 2, none⟩ (.int .u8 0)).setCell ⟨pb, k * 5 + 4, none⟩ (.int .i64 0)).drew G _ 83 := hG.chg (Chg.then_ (Chg.set (F := fun q => q = pb) (Chg.set (F := fun q => q = pb) (Chg.set (F := fun q => q = pb) (Chg.set (F := fun q => q = pb) (Chg.refl _ _) (.inl rfl) _ _) (.inl rfl) _ _) (.inl rfl) _ _) (.inl rfl) _ _) (below_drew7 _ 1)) (fun e => h.pbG e.symm)
      generalize ((((wr.setCell ⟨pb, k * 5 + 1, none⟩ (.int .i64 0)).setCell ⟨pb, k * 5 + 1 + 1, none⟩ (.int .i64 0)).setCell ⟨pb, k * 5 + 1 + 2, none⟩ (.int .u8 0)).setCell ⟨pb, k * 5 + 4, none⟩ (.int .i64 0)).drew = w4 at *
      have hW4 := Lib.hid (HW.out.trans hC4 (fun q e => .inl e))
      obtain ⟨cs4, hcs4⟩ : ∃ cs4, (((cs.setIfInBounds (k * 5 + 1) (.int .i64 0)).setIfInBounds (k * 5 + 1 + 1) (.int .i64 0)).setIfInBounds (k * 5 + 1 + 2) (.int .u8 0)).setIfInBounds (k * 5 + 4) (.int .i64 0) = cs4 := ⟨_, rfl⟩
      have HS4 := Lib.hid hcs4
      rw [hcs4] at hb4
      clear hcs4 d1 d2 d3 d4 f0 hb hG c0 hC4
      by_cases hkn : k < n
      · have hfw := hf.chg hW4.out (fun q e e2 => by have := hA (by omega) q e; rcases e2 with e2 | e2 <;> omega)
        rcases hfw.2 with h0 | ⟨fb, fo, hfa, hfc⟩
        · omega
        subst hfa
        obtain ⟨e1, e2, e3, -⟩ := hfc k hkn
        have c0 : w4.cell? ⟨G, 0, none⟩ = some (.slice (some ⟨pb, 0, none⟩) P.n P.n) := hG4.cell 0
        have hsz4 : cs4.size = P.n * 5 := by rw [← HS4.out]; simpa using hsz
        have g1 : w4.cell? ⟨pb, k * 5 + 1, none⟩ = some (.int .i64 0) := (hb4.cell _).trans (by rw [← HS4.out, set_off (by omega), set_off (by omega), set_off (by omega), set_at (by omega)])
        have g2 : w4.cell? ⟨pb, k * 5 + 2, none⟩ = some (.int .i64 0) := (hb4.cell _).trans (by rw [← HS4.out, set_off (by omega), set_off (by omega), set_at (by simp; omega)])
        have g3 : w4.cell? ⟨pb, k * 5 + 3, none⟩ = some (.int .u8 0) := (hb4.cell _).trans (by rw [← HS4.out, set_off (by omega), set_at (by simp; omega)])
        have f0 := hb4.frozen
        have i1 : (k : Int) < (n : Int) := by omega
        generalize hfd : (fs.getD k Ft.no).d = fd at *
        generalize hfk : (fs.getD k Ft.no).k = fk at *
        generalize hft : (((fs.getD k Ft.no).t.toNat : Nat) : Int) = ft at *
        have HFD := Lib.hid (And.intro hfd (And.intro hfk hft))
        clear hfd hfk hft hfc hfw
        go_wp2_with fail
        go_region
        have hb5 : Blk (((w4.setCell ⟨pb, k * 5 + 1, none⟩ (.int .i64 fd)).setCell ⟨pb, k * 5 + 1 + 1, none⟩ (.int .i64 fk)).setCell ⟨pb, k * 5 + 1 + 2, none⟩ (.int .u8 ft)).drew pb _ 87 := (((hb4.set (k * 5 + 1) (.int .i64 fd)).set (k * 5 + 1 + 1) (.int .i64 fk)).set (k * 5 + 1 + 2) (.int .u8 ft)).drew
        have hC5 : Chg (fun q => q = pb) w4 (((w4.setCell ⟨pb, k * 5 + 1, none⟩ (.int .i64 fd)).setCell ⟨pb, k * 5 + 1 + 1, none⟩ (.int .i64 fk)).setCell ⟨pb, k * 5 + 1 + 2, none⟩ (.int .u8 ft)).drew :=
          Chg.then_ (Chg.set (F := fun q => q = pb) (Chg.set (F := fun q => q = pb) (Chg.set (F := fun q => q = pb) (Chg.refl _ _) (.inl rfl) _ _) (.inl rfl) _ _) (.inl rfl) _ _) (below_drew7 _ 1)
        have hG5 := hG4.chg hC5 (fun e => h.pbG e.symm)
        generalize (((w4.setCell ⟨pb, k * 5 + 1, none⟩ (.int .i64 fd)).setCell ⟨pb, k * 5 + 1 + 1, none⟩ (.int .i64 fk)).setCell ⟨pb, k * 5 + 1 + 2, none⟩ (.int .u8 ft)).drew = w5 at *
        have hN : Cells (P.armK fs (k + 1)) ls (((cs4.setIfInBounds (k * 5 + 1) (.int .i64 fd)).setIfInBounds (k * 5 + 1 + 1) (.int .i64 fk)).setIfInBounds (k * 5 + 1 + 2) (.int .u8 ft)) := by
          refine HC.out.arm hlt (by simp [hsz4, hsz]) (fun i hi => ?_) ?_ ?_ ?_ ?_
          · rw [set_off (by omega), set_off (by omega), set_off (by omega), ← HS4.out, set_off (by omega), set_off (by omega), set_off (by omega), set_off (by omega)]
          · rw [set_off (by omega), set_off (by omega), set_at (by omega), HFD.out.1]
          · rw [set_off (by omega), set_at (by simp; omega), HFD.out.2.1]
          · rw [set_at (by simp; omega), HFD.out.2.2]
          · rw [set_off (by omega), set_off (by omega), set_off (by omega), ← HS4.out, set_at (by simp; omega)]
            rfl
        have HN := Lib.hid hN
        have HW5 := Lib.hid (hW4.out.trans hC5 (fun q e => .inl (.inr e)))
        clear hN hC5 hG4 hb4 g1 g2 g3 f0 e1 e2 e3 c0
        go_wp2_with fail
        go_roundw
        case rel => exact ⟨k + 1, _, hlt, by go_num, hG5, hb5, HN, HW5⟩
        case measure => simp [intOf]; omega
      · have hkd : decide (k < n) = false := decide_eq_false hkn
        have hn0 : fs.getD k Ft.no = Ft.no := by rw [List.getD_eq_getElem?_getD, List.getElem?_eq_none (by rw [hf.1]; omega)]; rfl
        have hN : Cells (P.armK fs (k + 1)) ls cs4 := by
          refine HC.out.arm hlt (by rw [← HS4.out]; simp) (fun i hi => ?_) ?_ ?_ ?_ ?_
          · rw [← HS4.out, set_off (by omega), set_off (by omega), set_off (by omega), set_off (by omega)]
          · rw [← HS4.out, set_off (by omega), set_off (by omega), set_off (by omega), set_at (by omega), hn0]; rfl
          · rw [← HS4.out, set_off (by omega), set_off (by omega), set_at (by simp; omega), hn0]; rfl
          · rw [← HS4.out, set_off (by omega), set_at (by simp; omega), hn0]; rfl
          · rw [← HS4.out, set_at (by simp; omega)]; rfl
        have HN := Lib.hid hN
        clear hN
        go_wp2_with fail
        go_roundw
        case rel => exact ⟨k + 1, _, hlt, by go_num, hG4, hb4, HN, hW4⟩
        case measure => simp [intOf]; omega
    · obtain rfl : k = P.n := by omega
      have c1 : wr.cell? ⟨G, 1, none⟩ = some (.bool P.armed) := hG.cell 1
      have f1 := hG.frozen 1
      have hG6 := hG.set 1 (.bool b)
      have hC6 := chg_set wr G 1 (.bool b)
      have hb6 := hb.chg hC6 (fun e => h.pbG e)
      have hN := arm_all (b := b) HC.out
      have hW6 := HW.out.trans hC6 (fun q e => .inl (.inl e))
      have hfin : DTo w G pb ls (P.arm fs b) K (wr.setCell ⟨G, 1, none⟩ (.bool b)) P.n :=
        h.cells (Q := P.arm fs b) rfl (fun j hj => ⟨rfl, rfl, rfl⟩) ⟨h.lim.n0, h.lim.n1, fun j hj => by
          have hl := h.lim.a j hj
          exact ⟨Nat.zero_le _, hl.b0, hl.e, hl.n, hl.s, hf.ok j⟩⟩ hW6 hG6 hb6 hN
      have HFIN := Lib.hid hfin
      clear hfin hW6 hN hb6 hC6 hG6
      go_wp2_with fail
      go_end0
      exact ⟨rfl, HFIN.out⟩
theorem diskArm_any {w : World} {G pb K : Nat} {ls : Nat → Loc} {P : Pd} (h : DAt w G pb ls P K) (A : Option Addr) (n c : Nat) (fs : List Ft) (hf : FtAt w A n fs) (hA : n ≠ 0 → ∀ k, blkO A = some k → k ≠ G ∧ k ≠ pb) :
    Calls Try.prog 19 #[.pointer (some ⟨G, 0, none⟩), .slice A n c] w fun e w' => e = .returned (.tuple #[]) ∧ DTo w G pb ls (P.arm fs true) K w' P.n := by
  go_enter Try.func19, Try.ntmps19
  go_wp2_with fail
  refine (arm_any h A n c fs hf true hA).mono ?_
  rintro e w' ⟨rfl, hh⟩
  go_wp2_with fail
  go_end0
  exact ⟨rfl, hh⟩
theorem diskArm_nil (v : Value) (w : World) : Calls Try.prog 19 #[.pointer none, v] w fun e w' => e = .returned (.tuple #[]) ∧ w = w' := by
  go_enter Try.func19, Try.ntmps19
  go_wp2
  go_end0
  exact ⟨rfl, rfl⟩
end Go.Proofs.Ytodaplkijdjbpaa
