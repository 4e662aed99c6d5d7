/- What an area answers hangs on its own calls alone: the plain law. -/
import Derived.Test.YtodaplkijdjbpaaApt
import Derived.Test.YtodaplkijdjbpaaMine
namespace Go.Proofs.Ytodaplkijdjbpaa
open Go.RowKit
set_option linter.unusedVariables false
set_option linter.unusedSimpArgs false
/-- Two disks whose areas j are the same. -/
structure Sm (j : Nat) (P Q : Pd) : Prop where
  lt : j < P.n
  n : P.n = Q.n
  a : P.armed = Q.armed
  p : P.p j = Q.p j
section
variable {j : Nat} {P Q : Pd}
theorem Sm.down (h : Sm j P Q) : P.down j = Q.down j := by unfold Pd.down; rw [h.a, h.p]
theorem sm_set (h : Sm j P Q) (a b : Pa) (e : a = b) : Sm j (P.set j a) (Q.set j b) := by
  subst e
  exact ⟨h.lt, h.n, h.a, by simp only [Pd.set, upd_same]⟩
theorem sm_op (h : Sm j P Q) (f : Pa → Option Pa) : (P.op (j : Int) f).2 = (Q.op (j : Int) f).2 ∧ Sm j (P.op (j : Int) f).1 (Q.op (j : Int) f).1 := by
  have h1 := h.lt
  have h2 := h.n
  have h3 := h.down
  have h4 := h.p
  unfold Pd.op
  rw [if_neg (show ¬ ((j : Int) < 0 ∨ (P.n : Int) ≤ j) by omega), if_neg (show ¬ ((j : Int) < 0 ∨ (Q.n : Int) ≤ j) by omega), Int.toNat_natCast, ← h3, ← h4]
  split
  · exact ⟨rfl, h⟩
  · split
    · exact ⟨rfl, h⟩
    · exact ⟨rfl, sm_set h _ _ rfl⟩
theorem sm_off (h : Sm j P Q) (i : Int) (hi : i ≠ j) (f : Pa → Option Pa) : Sm j (P.op i f).1 Q := by
  unfold Pd.op
  split
  · exact h
  · rename_i hn
    split
    · exact h
    · split
      · exact h
      · exact ⟨h.lt, h.n, h.a, by simp only [Pd.set]; rw [upd_other _ _ _ _ (by omega)]; exact h.p⟩
theorem sm_arm (h : Sm j P Q) (fs gs : List Ft) (e : gs.getD j Ft.no = fs.getD j Ft.no) (b : Bool) : Sm j (P.arm fs b) (Q.arm gs b) :=
  ⟨h.lt, h.n, rfl, by simp only [Pd.arm]; rw [h.p, e]⟩
theorem sm_strike (h : Sm j P Q) : Sm j P.strike Q.strike :=
  ⟨h.lt, h.n, rfl, by simp only [Pd.strike, Pd.fate]; rw [h.p, h.a]⟩
theorem sm_step (h : Sm j P Q) (s : Ps) (hi : s.i = j) (h0 : 0 ≤ s.k) (h6 : s.k ≤ 6) : P.told s = Q.told s ∧ Sm j (P.step s) (Q.step s) := by
  obtain ⟨k, i, a, b, p, f⟩ := s
  simp only at hi h0 h6
  subst hi
  have h1 := h.lt
  have h2 := h.n
  have h4 := h.p
  have hr : ∀ x y, P.read (j : Int) x y = Q.read (j : Int) x y := fun x y => by unfold Pd.read; rw [Int.toNat_natCast, h4, h2]
  have hb : P.bounds (j : Int) = Q.bounds (j : Int) := by unfold Pd.bounds; rw [Int.toNat_natCast, h4, h2]
  have hd : P.dones (j : Int) = Q.dones (j : Int) := by unfold Pd.dones; rw [Int.toNat_natCast, h4, h2]
  have hk : k = 0 ∨ k = 1 ∨ k = 2 ∨ k = 3 ∨ k = 4 ∨ k = 5 ∨ k = 6 := by omega
  rcases hk with rfl | rfl | rfl | rfl | rfl | rfl | rfl
  · have := sm_op h (Pa.append p); exact ⟨by simp [Pd.told, this.1], by simpa [Pd.step] using this.2⟩
  · have := sm_op h Pa.sync; exact ⟨by simp [Pd.told, this.1], by simpa [Pd.step] using this.2⟩
  · have := sm_op h (Pa.cut a); exact ⟨by simp [Pd.told, this.1], by simpa [Pd.step] using this.2⟩
  · have := sm_op h (Pa.trim a); exact ⟨by simp [Pd.told, this.1], by simpa [Pd.step] using this.2⟩
  · exact ⟨by simp [Pd.told, hr], by simpa [Pd.step] using h⟩
  · exact ⟨by simp [Pd.told, hb], by simpa [Pd.step] using h⟩
  · exact ⟨by simp [Pd.told, hd], by simpa [Pd.step] using h⟩
/-- A step that is none of the area's. -/
theorem sm_step_off (h : Sm j P Q) (s : Ps) (h7 : s.k ≠ 7) (h8 : s.k ≠ 8) (hi : 0 ≤ s.k → s.k ≤ 6 → s.i ≠ j) : Sm j (P.step s) Q := by
  obtain ⟨k, i, a, b, p, f⟩ := s
  simp only at hi h7 h8
  unfold Pd.step
  simp only
  split
  · exact sm_off h _ (hi (by omega) (by omega)) _
  · split
    · exact sm_off h _ (hi (by omega) (by omega)) _
    · split
      · exact sm_off h _ (hi (by omega) (by omega)) _
      · split
        · exact sm_off h _ (hi (by omega) (by omega)) _
        · exact h
theorem sm_image (h : Sm j P Q) : P.image.getD j (0, []) = Q.image.getD j (0, []) := by
  have h1 := h.lt
  have h2 := h.n
  have h3 : j < Q.n := by omega
  simp [Pd.image, Pd.imageK, List.getD_eq_getElem?_getD, h1, h3, h.p]
theorem told_small (s : Ps) (h4 : s.k ≠ 4) (h9 : s.k ≠ 9) : (P.told s).p = [] ∧ (P.told s).s = [] := by
  unfold Pd.told
  repeat' split
  all_goals first | exact ⟨rfl, rfl⟩ | contradiction
theorem told_spans (s : Ps) (h9 : s.k ≠ 9) : (P.told s).s = [] := by
  unfold Pd.told
  repeat' split
  all_goals first | rfl | contradiction
end
/-- An answer without bytes and spans is there in every world. -/
theorem TdAt.bare {w w1 : World} {v : Value} {t : Td} (h : TdAt w v t) (hp : t.p = []) (hs : t.s = []) : TdAt w1 v t := by
  obtain ⟨A, m, c, B, n, d, e, h1, h2⟩ := h
  have e1 := h1.1
  have e2 := h2.1
  rw [hp] at e1
  rw [hs] at e2
  simp only [List.length_nil] at e1 e2
  subst e1 e2
  exact ⟨A, 0, c, B, 0, d, e, by rw [hp]; exact Bytes.empty _ _, by rw [hs]; exact SpAt.nil _ _⟩
/-- One span of a list. -/
theorem SpAt.one {w : World} {A : Option Addr} {n i : Nat} {l : List (Int × List UInt8)} (h : SpAt w A n l) (hi : i < n) : ∃ b o, A = some ⟨b, o, none⟩ ∧ SpAt w (some ⟨b, o + i * 2, none⟩) 1 [l.getD i (0, [])] := by
  rcases h.2 with h0 | ⟨b, o, rfl, hc⟩
  · omega
  · refine ⟨b, o, rfl, rfl, .inr ⟨b, o + i * 2, rfl, fun j hj => ?_⟩⟩
    obtain rfl : j = 0 := by omega
    obtain ⟨h1, A', m, c', h2, h3, h4⟩ := hc i hi
    exact ⟨h1, A', m, c', h2, h3, h4⟩
theorem spans_val {w : World} {A B : Option Addr} {n c d : Nat} {l : List (Int × List UInt8)} (ha : SpAt w A n l) (hb : SpAt w B n l) (hn : n ≤ 281474976710656) (q : Nat) :
    Calls Try.prog 31 #[.slice A n c, .slice B n d] (w.drewN q) fun e w' => e = .returned (.bool true) ∧ ∃ k, w' = (w.drewN q).drewN k :=
  spansAlike_same A B n c d l (w.drewN q) (ha.draws q) (hb.draws q) hn
/-- Fates that a call made. -/
def Own (w : World) (g m : Nat) (gs : List Ft) : Prop := ∃ cs, Blk w g cs 55 ∧ cs.size = m * 3 ∧ gs.length = m ∧ ∀ j, j < m → cs[j * 3]? = some (.int .i64 (gs.getD j Ft.no).d) ∧ cs[j * 3 + 1]? = some (.int .i64 (gs.getD j Ft.no).k) ∧ cs[j * 3 + 2]? = some (.int .u8 (((gs.getD j Ft.no).t.toNat : Nat) : Int)) ∧ (gs.getD j Ft.no).ok
theorem Own.at_ {w : World} {g m : Nat} {gs : List Ft} (h : Own w g m gs) : FtAt w (some ⟨g, 0, none⟩) m gs := by
  obtain ⟨cs, hb, hz, hl, hc⟩ := h
  refine ⟨hl, .inr ⟨g, 0, rfl, fun j hj => ?_⟩⟩
  obtain ⟨h1, h2, h3, h4⟩ := hc j hj
  rw [Nat.zero_add]
  exact ⟨(hb.cell _).trans h1, (hb.cell _).trans h2, (hb.cell _).trans h3, h4⟩
theorem info_fate : (Try.prog.info? 55).map (fun i => (i.zero, i.size, i.bytes)) = some (some (.agg #[.int .i64 0, .int .i64 0, .int .u8 0]), 3, 24) := by kernel_rfl
theorem own_made {w : World} {g m : Nat} (h : Blk w g (madeCells (Value.agg #[.int .i64 0, .int .i64 0, .int .u8 0]).cells (m * 3)) 55) : Own w g m (List.replicate m Ft.no) := by
  refine ⟨_, h, size_madeCells _ _, by simp, fun j hj => ?_⟩
  have e : (List.replicate m Ft.no).getD j Ft.no = Ft.no := by simp [List.getD_eq_getElem?_getD, hj]
  rw [e]
  refine ⟨?_, ?_, ?_, Ft.no_ok⟩
  · rw [made_at _ _ _ (by omega)]; simp [Value.cells, Ft.no]
  · rw [made_at _ _ _ (by omega)]; simp [Value.cells, Nat.add_mod, Ft.no]
  · rw [made_at _ _ _ (by omega)]; simp [Value.cells, Nat.add_mod, Ft.no]
theorem Own.set {w : World} {g m i : Nat} {gs : List Ft} (h : Own w g m gs) (hi : i < m) (f : Ft) (hf : f.ok) :
    Own (((w.setCell ⟨g, i * 3, none⟩ (.int .i64 f.d)).setCell ⟨g, i * 3 + 1, none⟩ (.int .i64 f.k)).setCell ⟨g, i * 3 + 2, none⟩ (.int .u8 ((f.t.toNat : Nat) : Int))) g m (gs.set i f) ∧
    Chg (fun k => k = g) w (((w.setCell ⟨g, i * 3, none⟩ (.int .i64 f.d)).setCell ⟨g, i * 3 + 1, none⟩ (.int .i64 f.k)).setCell ⟨g, i * 3 + 2, none⟩ (.int .u8 ((f.t.toNat : Nat) : Int))) := by
  obtain ⟨cs, hb, hz, hl, hc⟩ := h
  refine ⟨⟨_, ((hb.set _ _).set _ _).set _ _, by simp only [Array.size_setIfInBounds]; exact hz, by rw [List.length_set]; exact hl, fun j hj => ?_⟩, ((chg_set w g _ _).set (.inl rfl) _ _).set (.inl rfl) _ _⟩
  by_cases e : j = i
  · subst e
    have e1 : (gs.set j f).getD j Ft.no = f := by simp [List.getD_eq_getElem?_getD, hl, hj]
    rw [e1]
    refine ⟨?_, ?_, ?_, hf⟩
    · rw [set_off (by omega), set_off (by omega), set_at (by omega)]
    · rw [set_off (by omega), set_at (by simp only [Array.size_setIfInBounds]; omega)]
    · rw [set_at (by simp only [Array.size_setIfInBounds]; omega)]
  · have e1 : (gs.set i f).getD j Ft.no = gs.getD j Ft.no := by simp [List.getD_eq_getElem?_getD, List.getElem?_set, Ne.symm e]
    rw [e1]
    obtain ⟨h1, h2, h3, h4⟩ := hc j hj
    refine ⟨?_, ?_, ?_, h4⟩
    · rw [set_off (by omega), set_off (by omega), set_off (by omega)]; exact h1
    · rw [set_off (by omega), set_off (by omega), set_off (by omega)]; exact h2
    · rw [set_off (by omega), set_off (by omega), set_off (by omega)]; exact h3
theorem own_getD_in (m i : Nat) (f : Ft) (h : i < m) : ((List.replicate m Ft.no).set i f).getD i Ft.no = f := by simp [List.getD_eq_getElem?_getD, h]
theorem own_getD_out (m i : Nat) : (List.replicate m Ft.no).getD i Ft.no = Ft.no := by
  rw [List.getD_eq_getElem?_getD, List.getElem?_replicate]
  split <;> rfl
end Go.Proofs.Ytodaplkijdjbpaa
