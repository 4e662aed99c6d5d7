/- Package disk, walked: Load. -/
import Derived.Test.YtodaplkijdjbpaaNew
import Derived.Test.YtodaplkijdjbpaaStrike
namespace Go.Proofs.Ytodaplkijdjbpaa
open Go.RowKit
set_option linter.unusedVariables false
set_option linter.unusedSimpArgs false
theorem own_cap8 {w : World} {B : Nat} {e : TypeId} {n c : Nat} {A : Option Addr} {bs : List UInt8} (h : w.ownsRow B e 1 (.slice A n c) n (bvals bs)) : n ≤ c := by
  obtain ⟨A', c', e, h1, _⟩ := own_reads h
  injection e with e1 e2 e3
  omega
/-- Spans in memory, wherever they came from. -/
def SpAt (w : World) (A : Option Addr) (n : Nat) (l : List (Int × List UInt8)) : Prop :=
  l.length = n ∧ (n = 0 ∨ ∃ b o, A = some ⟨b, o, none⟩ ∧ ∀ j, j < n → w.cell? ⟨b, o + j * 2, none⟩ = some (.int .i64 (l.getD j (0, [])).1) ∧
    ∃ A' m c', w.cell? ⟨b, o + j * 2 + 1, none⟩ = some (.slice A' m c') ∧ Bytes w A' m (l.getD j (0, [])).2 ∧ m ≤ c')
theorem SpAt.below {w w1 : World} {A : Option Addr} {n : Nat} {l : List (Int × List UInt8)} (h : SpAt w A n l) (hb : Below w.heap.size w w1) : SpAt w1 A n l := by
  refine ⟨h.1, ?_⟩
  rcases h.2 with h0 | ⟨b, o, rfl, hj⟩
  · exact .inl h0
  · refine .inr ⟨b, o, rfl, fun j hjn => ?_⟩
    obtain ⟨h1, A', m, c', h2, h3, h4⟩ := hj j hjn
    exact ⟨(hb.cell (p := ⟨b, o + j * 2, none⟩) (block_lt_of_cell h1)).trans h1, A', m, c', (hb.cell (p := ⟨b, o + j * 2 + 1, none⟩) (block_lt_of_cell h2)).trans h2, h3.below hb, h4⟩
theorem SpAt.at_ {w : World} {A : Option Addr} {n : Nat} {l : List (Int × List UInt8)} (h : SpAt w A n l) (j : Nat) (hj : j < n) :
    ∃ b o A' m c', A = some ⟨b, o, none⟩ ∧ w.cell? ⟨b, o + j * 2, none⟩ = some (.int .i64 (l.getD j (0, [])).1) ∧ w.cell? ⟨b, o + j * 2 + 1, none⟩ = some (.slice A' m c') ∧ Bytes w A' m (l.getD j (0, [])).2 ∧ m ≤ c' ∧ (l.getD j (0, [])).2.length = m := by
  rcases h.2 with h0 | ⟨b, o, rfl, hc⟩
  · omega
  · obtain ⟨h1, A', m, c', h2, h3, h4⟩ := hc j hj
    exact ⟨b, o, A', m, c', rfl, h1, h2, h3, h4, h3.1⟩
def badBase (b : Int) : Prop := b < 0 ∨ 4611686018427387904 < b
def Pa.of (s : Int × List UInt8) : Pa := ⟨s.1, s.2, s.2.length, Ft.no, 0⟩
/-- The disk with the first k spans in it. -/
def Pd.loadK (l : List (Int × List UInt8)) (n k : Nat) : Pd := ⟨n, fun j => if j < k then Pa.of (l.getD j (0, [])) else Pa.new, false⟩
def Pd.load (l : List (Int × List UInt8)) : Pd := ⟨l.length, fun j => Pa.of (l.getD j (0, [])), false⟩
def loadOk (l : List (Int × List UInt8)) : Prop := 1 ≤ l.length ∧ l.length ≤ 16 ∧ ∀ j, j < l.length → ¬ badBase (l.getD j (0, [])).1
/-- An area is put in the place of another. -/
theorem DAt.put {w w1 : World} {G pb K : Nat} {ls : Nat → Loc} {P : Pd} (h : DAt w G pb ls P K) (i : Nat) (hi : i < P.n) (hb : Below w.heap.size w w1) {a : Pa} {g : Nat} {A : Option Addr} {c : Nat} (ha : Ar w1 g A c a.base a.bs a.safe) (hn : ∀ k, arF g A k → w.heap.size ≤ k) (hf : a.f = (P.p i).f) (hd : a.done = (P.p i).done) (hl : a.lim K) :
    DAt (w1.setCell ⟨pb, i * 5, none⟩ (.pointer (some ⟨g, 0, none⟩))) G pb (upd ls i ⟨g, A, c⟩) (P.set i a) K := by
  have h1 := h.below hb
  obtain ⟨cs, hbk, hcs⟩ := h1.ps
  have hc := chg_set w1 pb (i * 5) (.pointer (some ⟨g, 0, none⟩))
  have hs := hcs.size
  refine ⟨h1.hd.chg hc (fun e => h.pbG e.symm), ⟨_, hbk.set _ _, ?_⟩, fun j hj => ?_, fun j l hj hl' hne k e e2 => ?_, h.lim.set i hl⟩
  · refine ⟨by rw [Array.size_setIfInBounds]; exact hs, fun j hj => ?_, fun j hj => ?_, fun j hj => ?_, fun j hj => ?_, fun j hj => ?_⟩ <;> (by_cases e : j = i)
    · subst e; rw [set_at (by omega), upd_same]
    · rw [set_off (by omega), upd_other _ _ _ _ e]; exact hcs.ptr j hj
    · subst e; rw [set_off (by omega)]; simp only [Pd.set, upd_same, hf]; exact hcs.fd j hj
    · rw [set_off (by omega)]; simp only [Pd.set, upd_other _ _ _ _ e]; exact hcs.fd j hj
    · subst e; rw [set_off (by omega)]; simp only [Pd.set, upd_same, hf]; exact hcs.fk j hj
    · rw [set_off (by omega)]; simp only [Pd.set, upd_other _ _ _ _ e]; exact hcs.fk j hj
    · subst e; rw [set_off (by omega)]; simp only [Pd.set, upd_same, hf]; exact hcs.ft j hj
    · rw [set_off (by omega)]; simp only [Pd.set, upd_other _ _ _ _ e]; exact hcs.ft j hj
    · subst e; rw [set_off (by omega)]; simp only [Pd.set, upd_same, hd]; exact hcs.dn j hj
    · rw [set_off (by omega)]; simp only [Pd.set, upd_other _ _ _ _ e]; exact hcs.dn j hj
  · by_cases e : j = i
    · subst e; simp only [Pd.set, upd_same]
      exact ha.chg hc (fun q e1 e2 => ha.off hbk (by decide) (by decide) (e2 ▸ e1))
    · simp only [Pd.set, upd_other _ _ _ _ e]
      exact (h1.ar j hj).chg hc (fun q e1 e2 => h1.offP j hj (e2 ▸ e1))
  · by_cases ej : j = i
    · subst ej
      rw [upd_same] at e
      rw [upd_other _ _ _ _ (fun e3 => hne e3.symm)] at e2
      have h3 := hn k e
      have h4 := h.lt k (.inr (.inr ⟨l, hl', e2⟩))
      omega
    · rw [upd_other _ _ _ _ ej] at e
      by_cases el : l = i
      · subst el
        rw [upd_same] at e2
        have h3 := hn k e2
        have h4 := h.lt k (.inr (.inr ⟨j, hj, e⟩))
        omega
      · rw [upd_other _ _ _ _ el] at e2
        exact h.ap j l hj hl' hne k e e2
theorem loadK_succ (l : List (Int × List UInt8)) (n k : Nat) : (Pd.loadK l n k).set k (Pa.of (l.getD k (0, []))) = Pd.loadK l n (k + 1) := by
  simp only [Pd.set, Pd.loadK]
  congr 1
  funext j
  by_cases e : j = k
  · subst e; rw [upd_same, if_pos (by omega)]
  · rw [upd_other _ _ _ _ e]
    by_cases e2 : j < k
    · rw [if_pos e2, if_pos (by omega)]
    · rw [if_neg e2, if_neg (by omega)]
def LoadTo (l : List (Int × List UInt8)) (w : World) (e : Ending) (w' : World) : Prop :=
  Below w.heap.size w w' ∧ ((¬ loadOk l ∧ e = .returned (.tuple #[.pointer none, .int .i64 2])) ∨
    (loadOk l ∧ ∃ G pb, ∃ ls : Nat → Loc, e = .returned (.tuple #[.pointer (some ⟨G, 0, none⟩), .int .i64 0]) ∧ DAt w' G pb ls (Pd.load l) 0 ∧ ∀ k, dF G pb ls l.length k → w.heap.size ≤ k))
set_option maxHeartbeats 1600000 in
theorem diskLoad_any (A : Option Addr) (n c : Nat) (l : List (Int × List UInt8)) (w : World) (h : SpAt w A n l) (hn : ∀ j, j < n → (l.getD j (0, [])).2.length ≤ 140737488355328) :
    Calls Try.prog 23 #[.slice A n c] w (LoadTo l w) := by
  have HL := Lib.hid h.1
  go_enter Try.func23, Try.ntmps23
  go_wp2_with fail
  by_cases hr : (n : Int) < 1 ∨ 16 < (n : Int)
  · refine (diskNew_no _ _ hr).mono ?_
    rintro e w1 ⟨rfl, rfl⟩
    go_wp2_with fail
    go_ret2
    exact ⟨Below.refl _ _, .inl ⟨fun hk => by have h1 := hk.1; have h2 := hk.2.1; have := HL.out; omega, rfl⟩⟩
  · refine (diskNew_any n w (by omega) (by omega)).mono ?_
    rintro e w1 ⟨G, pb, gs, rfl, hD, hB1, hk1⟩
    have hn1 : 1 ≤ n := by omega
    have hn16 : n ≤ 16 := by omega
    have h1 := h.below hB1
    have hD0 := hD 0
    go_wp2_with fail
    go_loopw [21] (fun i wr => ∃ k : Nat, ∃ ls : Nat → Loc, k ≤ n ∧ i = .int .i64 k ∧ DAt wr G pb ls (Pd.loadK l n k) 0 ∧ Hid (∀ q, dF G pb ls n q → w.heap.size ≤ q) ∧ Hid (∀ j, j < k → ¬ badBase (l.getD j (0, [])).1) ∧ Below w.heap.size w wr) (fun i _ => n - (intOf i).toNat)
    case atStart => exact ⟨0, _, Nat.zero_le _, rfl, hD0, Lib.hid hk1, Lib.hid (fun j hj => absurd hj (by omega)), hB1⟩
    case round =>
      clear hD hk1 h1 hD0 hr
      obtain ⟨k, ls, hk, rfl, hD, HF, HO, hB⟩ := hrel
      by_cases hlt : k < n
      · obtain ⟨sb, so, A', m, c', rfl, hc0, hc1, hbb, -, hml⟩ := (h.below hB).at_ k hlt
        have hj0 : (0 : Int) ≤ (k : Int) := by omega
        have hj1 : (k : Int) < (n : Int) := by omega
        have hmb := hn k hlt
        have HSK := Lib.hid (loadK_succ l n k)
        generalize hsk : l.getD k (0, []) = sk at *
        have HSE := Lib.hid hsk
        obtain ⟨base, bs⟩ := sk
        simp only at hc0 hbb hmb hml
        clear hsk
        have x1 := below_alloc wr (.cells #[.int .i64 base, .slice A' m c'] 44)
        have hbb1 := hbb.below x1
        have hB1' := below_then hB x1 hB.size
        have hD1 := hD.below x1
        have HML := Lib.hid hml
        clear hbb hml
        go_wp2_with fail
        by_cases hbad : badBase base
        · refine (areaLoad_no A' m c' base _ hbad).mono ?_
          rintro e w3 ⟨rfl, hb3⟩
          go_wp2_with fail
          go_ret2
          exact ⟨below_then hB1' hb3 hB1'.size, .inl ⟨fun hk => hk.2.2 k (by rw [HL.out]; exact hlt) (by rw [HSE.out]; exact hbad), rfl⟩⟩
        · have hb0 : 0 ≤ base := by unfold badBase at hbad; omega
          have hb2 : base ≤ 4611686018427387904 := by unfold badBase at hbad; omega
          refine (areaLoad_any A' m c' bs base _ hbb1 (by have := HML.out; omega) hb0 hb2).mono ?_
          rintro e w3 ⟨g, A3, c3, rfl, ha3, hb3, hn3⟩
          obtain ⟨cs, hbk, hcs⟩ := (hD1.below hb3).ps
          have c0 : w3.cell? ⟨G, 0, none⟩ = some (.slice (some ⟨pb, 0, none⟩) n n) := (hD1.below hb3).hd.cell 0
          have p0 : w3.cell? ⟨pb, k * 5, none⟩ = some (.pointer _) := (hbk.cell _).trans (hcs.ptr k hlt)
          have f0 := hbk.frozen (k * 5)
          have hN := hD1.put k hlt hb3 (a := Pa.of (base, bs)) ha3 hn3 (by simp [Pd.loadK, Pa.of, Pa.new]) (by simp [Pd.loadK, Pa.of, Pa.new]) ⟨Nat.le_refl _, hb0, by simp only [Pa.of]; omega, by simp only [Pa.of]; omega, Nat.le_refl _, Ft.no_ok⟩
          rw [HSK.out] at hN
          have hpb : w.heap.size ≤ pb := HF.out pb (.inr (.inl rfl))
          have hBN := (below_then hB1' hb3 hB1'.size).setCell (p := ⟨pb, k * 5, none⟩) hpb (.pointer (some ⟨g, 0, none⟩))
          have hFN : Hid (∀ q, dF G pb (upd ls k ⟨g, A3, c3⟩) n q → w.heap.size ≤ q) := Lib.hid (fun q e => by
            rcases e with e | e | ⟨j, hj, e⟩
            · exact HF.out q (.inl e)
            · exact HF.out q (.inr (.inl e))
            · by_cases ej : j = k
              · subst ej; rw [upd_same] at e
                exact Nat.le_trans hB1'.size (hn3 q e)
              · rw [upd_other _ _ _ _ ej] at e
                exact HF.out q (.inr (.inr ⟨j, hj, e⟩)))
          have hON : Hid (∀ j, j < k + 1 → ¬ badBase (l.getD j (0, [])).1) := Lib.hid (fun j hj => by
            by_cases ej : j = k
            · subst ej; rw [HSE.out]; exact hbad
            · exact HO.out j (by omega))
          have HN := Lib.hid hN
          clear hN hcs hbk ha3 hn3 hb3 hD1 hD hB HF HO hbb1
          go_wp2_with fail
          go_roundw
          case rel => exact ⟨k + 1, _, hlt, by go_num, HN.out, hFN, hON, hBN⟩
          case measure => simp [intOf]; omega
      · obtain rfl : k = n := by omega
        go_wp2_with fail
        go_ret2
        have hll := HL.out
        refine ⟨hB, .inr ⟨⟨by omega, by omega, fun j hj => HO.out j (by omega)⟩, G, pb, ls, rfl, ?_, by rw [hll]; exact HF.out⟩⟩
        refine hD.ext (by rw [← hll]; rfl) rfl (fun j hj => ?_)
        simp only [Pd.loadK, Pd.load]
        exact if_pos hj
end Go.Proofs.Ytodaplkijdjbpaa
