/- Package disk, walked: Strike. -/
import Derived.Test.YtodaplkijdjbpaaArm
namespace Go.Proofs.Ytodaplkijdjbpaa
open Go.RowKit
set_option linter.unusedVariables false
set_option linter.unusedSimpArgs false
def Pd.fate (P : Pd) (a : Pa) : Ft := if P.armed then a.f else Ft.no
def Pa.crash (f : Ft) (a : Pa) : Pa := { a with bs := crashB a.bs a.safe (crashK a.bs.length a.safe f.k) f.t, safe := a.safe + crashK a.bs.length a.safe f.k }
def Pd.strK (P : Pd) (k : Nat) : Pd := { P with p := fun j => if j < k then (P.p j).crash (P.fate (P.p j)) else P.p j }
def Pd.strike (P : Pd) : Pd := ⟨P.n, fun j => ((P.p j).crash (P.fate (P.p j))).arm Ft.no, false⟩
theorem Pd.strK_zero (P : Pd) : P.strK 0 = P := by simp [Pd.strK]
theorem Pd.strK_succ (P : Pd) (k : Nat) : (P.strK k).set k ((P.p k).crash (P.fate (P.p k))) = P.strK (k + 1) := by
  simp only [Pd.set, Pd.strK]
  congr 1
  funext j
  by_cases e : j = k
  · subst e; rw [upd_same, if_pos (by omega)]
  · rw [upd_other _ _ _ _ e]
    by_cases e2 : j < k
    · rw [if_pos e2, if_pos (by omega)]
    · rw [if_neg e2, if_neg (by omega)]
theorem Pd.strK_arm (P : Pd) : ((P.strK P.n).arm [] false).n = P.strike.n ∧ ∀ j, j < P.n → ((P.strK P.n).arm [] false).p j = P.strike.p j := by
  refine ⟨rfl, fun j hj => ?_⟩
  simp only [Pd.strK, Pd.arm, Pd.strike, if_pos hj, List.getD_nil]
theorem crash_lim {a : Pa} {K : Nat} (h : a.lim K) (f : Ft) : (a.crash f).lim K := by
  have hk := crashK_le a.bs.length a.safe f.k h.s
  have hl := crashB_length a.bs a.safe (crashK a.bs.length a.safe f.k) f.t hk
  refine ⟨h.d, h.b0, ?_, ?_, ?_, h.f⟩
  · have := h.e; simp only [Pa.crash]; rw [hl]; omega
  · have := h.n; simp only [Pa.crash]; rw [hl]; omega
  · simp only [Pa.crash]; rw [hl]; exact Nat.le_refl _
/-- A disk that is the same up to its size. -/
theorem DAt.ext {w : World} {G pb K : Nat} {ls : Nat → Loc} {P Q : Pd} (h : DAt w G pb ls P K) (hn : P.n = Q.n) (ha : P.armed = Q.armed) (hp : ∀ j, j < P.n → P.p j = Q.p j) : DAt w G pb ls Q K := by
  obtain ⟨cs, hb, hc⟩ := h.ps
  refine ⟨by rw [← hn, ← ha]; exact h.hd, ⟨cs, hb, by rw [← hn]; exact hc.size, fun j hj => hc.ptr j (by omega), fun j hj => ?_, fun j hj => ?_, fun j hj => ?_, fun j hj => ?_⟩, fun j hj => ?_, fun i j hi hj => h.ap i j (by omega) (by omega), ⟨by rw [← hn]; exact h.lim.n0, by rw [← hn]; exact h.lim.n1, fun j hj => ?_⟩⟩
  · rw [← hp j (by omega)]; exact hc.fd j (by omega)
  · rw [← hp j (by omega)]; exact hc.fk j (by omega)
  · rw [← hp j (by omega)]; exact hc.ft j (by omega)
  · rw [← hp j (by omega)]; exact hc.dn j (by omega)
  · rw [← hp j (by omega)]; exact h.ar j (by omega)
  · rw [← hp j (by omega)]; exact h.lim.a j (by omega)
theorem DTo.ext {w w' : World} {G pb K n : Nat} {ls : Nat → Loc} {P Q : Pd} (h : DTo w G pb ls P K w' n) (hn : P.n = Q.n) (ha : P.armed = Q.armed) (hp : ∀ j, j < P.n → P.p j = Q.p j) : DTo w G pb ls Q K w' n := by
  obtain ⟨l2, hd, hc, hk⟩ := h
  exact ⟨l2, hd.ext hn ha hp, hc, by rw [← hn]; exact hk⟩
theorem strike_next {w wr wc w' : World} {G pb K k : Nat} {ls ls2 : Nat → Loc} {P : Pd} {e : Ending} {f : Ft} (hf : f = P.fate (P.p k)) (hD : DAt wr G pb ls2 (P.strK k) K) (hlt : k < P.n) (hcc : Chg (dF G pb ls P.n) w wr) (hkk : ∀ q, dF G pb ls2 (P.strK k).n q → dF G pb ls P.n q ∨ w.heap.size ≤ q)
    (hb : Below wr.heap.size wr wc) (hT : ArTo wc (arF (ls2 k).g (ls2 k).A) (ls2 k).g (P.p k).base (crashB (P.p k).bs (P.p k).safe (crashK (P.p k).bs.length (P.p k).safe f.k) f.t) ((P.p k).safe + crashK (P.p k).bs.length (P.p k).safe f.k) 0 e w') : DTo w G pb ls (P.strK (k + 1)) K w' P.n := by
  subst hf
  obtain ⟨he, A, c, ha, hc, hA⟩ := hT
  have hpk : (P.strK k).p k = P.p k := by simp [Pd.strK]
  have hl : ((P.p k).crash (P.fate (P.p k))).lim K := crash_lim (by have := hD.lim.a k hlt; rwa [hpk] at this) _
  have h1 := (hD.below hb).op (L := K) k hlt ha hc hA (by rw [hpk]; exact hl) (Nat.le_refl _)
  rw [hpk] at h1
  have h2 := DTo.trans hcc hkk (DTo.after hb h1)
  have h3 := P.strK_succ k
  simp only [Pa.crash] at h3
  rw [h3] at h2
  exact h2
set_option maxHeartbeats 1600000 in
theorem diskStrike_any {w : World} {G pb K : Nat} {ls : Nat → Loc} {P : Pd} (h : DAt w G pb ls P K) :
    Calls Try.prog 20 #[.pointer (some ⟨G, 0, none⟩)] w fun e w' => e = .returned (.tuple #[]) ∧ DTo w G pb ls P.strike K w' P.n := by
  have c0 : w.cell? ⟨G, 0, none⟩ = _ := h.hd.cell 0
  simp at c0
  have hn16 := h.lim.n1
  go_enter Try.func20, Try.ntmps20
  go_wp2_with fail
  go_loopw [12] (fun i wr => ∃ k : Nat, k ≤ P.n ∧ i = .int .i64 k ∧ DTo w G pb ls (P.strK k) K wr P.n) (fun i _ => P.n - (intOf i).toNat)
  case atStart => exact ⟨0, Nat.zero_le _, rfl, by rw [P.strK_zero]; exact DTo.same h (Below.refl _ _)⟩
  case round =>
    clear c0
    obtain ⟨k, hk, rfl, ls2, hD, hcc, hkk⟩ := hrel
    by_cases hlt : k < P.n
    · obtain ⟨cs, hb, hcs⟩ := hD.ps
      have hj0 : (0 : Int) ≤ (k : Int) := by omega
      have hj1 : (k : Int) < (P.n : Int) := by omega
      have c1 : wr.cell? ⟨G, 1, none⟩ = some (.bool P.armed) := hD.hd.cell 1
      have hpk : (P.strK k).p k = P.p k := by simp [Pd.strK]
      have d0 : wr.cell? ⟨pb, k * 5, none⟩ = some (.pointer (some ⟨(ls2 k).g, 0, none⟩)) := (hb.cell _).trans (hcs.ptr k hlt)
      have d1 : wr.cell? ⟨pb, k * 5 + 1, none⟩ = some (.int .i64 _) := (hb.cell _).trans (hcs.fd k hlt)
      have d2 : wr.cell? ⟨pb, k * 5 + 2, none⟩ = some (.int .i64 _) := (hb.cell _).trans (hcs.fk k hlt)
      have d3 : wr.cell? ⟨pb, k * 5 + 3, none⟩ = some (.int .u8 _) := (hb.cell _).trans (hcs.ft k hlt)
      have d4 : wr.cell? ⟨pb, k * 5 + 4, none⟩ = some (.int .i64 _) := (hb.cell _).trans (hcs.dn k hlt)
      rw [hpk] at d1 d2 d3 d4
      have har := hD.ar k hlt
      rw [hpk] at har
      have HAR := Lib.hid har
      have HD := Lib.hid hD
      generalize hfd : (P.p k).f.d = fd at *
      generalize hfk : (P.p k).f.k = fk at *
      generalize hft : (((P.p k).f.t.toNat : Nat) : Int) = ft at *
      generalize hdn : (P.p k).done = dn at *
      have HF := Lib.hid (And.intro hfd (And.intro hfk (And.intro hft hdn)))
      generalize hgg : (ls2 k).g = gg at *
      have HGG := Lib.hid hgg
      clear hfd hfk hft hdn hgg har hD hb hcs hpk
      have x1 := below_alloc wr (.cells #[.pointer (some ⟨gg, 0, none⟩), .int .i64 fd, .int .i64 fk, .int .u8 ft, .int .i64 dn] 87)
      have x2 := below_then x1 (below_alloc (wr.alloc (.cells #[.pointer (some ⟨gg, 0, none⟩), .int .i64 fd, .int .i64 fk, .int .u8 ft, .int .i64 dn] 87)) (.cells #[.int .i64 0, .int .i64 0, .int .u8 0] 55)) x1.size
      have k1 := (Blk.fresh wr #[.pointer (some ⟨gg, 0, none⟩), .int .i64 fd, .int .i64 fk, .int .u8 ft, .int .i64 dn] 87).keep (below_alloc (wr.alloc (.cells #[.pointer (some ⟨gg, 0, none⟩), .int .i64 fd, .int .i64 fk, .int .u8 ft, .int .i64 dn] 87)) (.cells #[.int .i64 0, .int .i64 0, .int .u8 0] 55))
      have k2 := Blk.fresh (wr.alloc (.cells #[.pointer (some ⟨gg, 0, none⟩), .int .i64 fd, .int .i64 fk, .int .u8 ft, .int .i64 dn] 87)) #[.int .i64 0, .int .i64 0, .int .u8 0] 55
      rw [World.size_alloc] at k2
      have c1' := (x2.cell (p := ⟨G, 1, none⟩) (block_lt_of_cell c1)).trans c1
      cases har : P.armed with
      | false =>
        rw [har] at c1 c1'
        have hff : Ft.no = P.fate (P.p k) := by simp [Pd.fate, har]
        clear har
        go_wp2_with fail
        refine (areaCrash_any (HAR.out.below x2) 0 0 0 rfl).mono ?_
        intro e w' hT
        have hN := Lib.hid (strike_next hff HD.out hlt hcc hkk x2 (by rw [HGG.out]; exact hT))
        obtain ⟨rfl, -⟩ := hT
        clear hcc hkk x1 x2 k1 k2 c1 c1' d0 d1 d2 d3 d4 HAR
        go_wp2_with fail
        go_roundw
        case rel => exact ⟨k + 1, hlt, by go_num, hN.out⟩
        case measure => simp [intOf]; omega
      | true =>
        rw [har] at c1 c1'
        have hff : (P.p k).f = P.fate (P.p k) := by simp [Pd.fate, har]
        clear har
        have y5 := below_then x1 (below_alloc (wr.alloc (.cells #[.pointer (some ⟨gg, 0, none⟩), .int .i64 fd, .int .i64 fk, .int .u8 ft, .int .i64 dn] 87)) (.cells #[.int .i64 fd, .int .i64 fk, .int .u8 ft] 55)) x1.size
        go_wp2_with fail
        refine (areaCrash_any (HAR.out.below y5) fk ft (P.p k).f.t HF.out.2.2.1.symm).mono ?_
        intro e w' hT
        have hN := Lib.hid (strike_next hff HD.out hlt hcc hkk y5 (by rw [HGG.out, HF.out.2.1]; exact hT))
        obtain ⟨rfl, -⟩ := hT
        clear hcc hkk x1 x2 k1 k2 c1 c1' d0 d1 d2 d3 d4 HAR y5
        go_wp2_with fail
        go_roundw
        case rel => exact ⟨k + 1, hlt, by go_num, hN.out⟩
        case measure => simp [intOf]; omega
    · obtain rfl : k = P.n := by omega
      go_wp2_with fail
      refine (arm_any hD none 0 0 [] ⟨rfl, .inl rfl⟩ false (fun _ q e => by cases e)).mono ?_
      rintro e w' ⟨rfl, hT⟩
      go_wp2_with fail
      go_end0
      exact ⟨rfl, (DTo.trans hcc hkk hT).ext rfl rfl (fun j hj => P.strK_arm.2 j hj)⟩
theorem diskStrike_nil (w : World) : Calls Try.prog 20 #[.pointer none] w fun e w' => e = .returned (.tuple #[]) ∧ w = w' := by
  go_enter Try.func20, Try.ntmps20
  go_wp2
  refine bodyPost_ret (results_none rfl _ _ _) rfl ?_
  exact ⟨rfl, rfl⟩
end Go.Proofs.Ytodaplkijdjbpaa
