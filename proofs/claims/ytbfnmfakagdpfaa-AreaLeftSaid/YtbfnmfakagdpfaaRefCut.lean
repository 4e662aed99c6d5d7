/- The document's area, walked: Cut. -/
import Derived.Test.YtbfnmfakagdpfaaRefSync
import Derived.Test.YtbfnmfakagdpfaaResults
namespace Go.Proofs.Ytbfnmfakagdpfaa
open Go.RowKit
set_option linter.unusedVariables false
set_option linter.unusedSimpArgs false
theorem own_cap7 {w : World} {B : Nat} {e : TypeId} {z n c : Nat} {A : Option Addr} {xs : List Value} (h : w.ownsRow B e z (.slice A n c) n xs) : n ≤ c := by
  obtain ⟨A', c', e, h1, _⟩ := own_reads h
  injection e with e1 e2 e3
  omega
theorem own_cutS {w : World} {B : Nat} {e : TypeId} {n c : Nat} {A : Option Addr} {s : Nat} (h : w.ownsRow B e 1 (.slice A n c) n (sv n s)) (k : Nat) (hk : k ≤ n) : w.ownsRow B e 1 (.slice A k c) k (sv k s) := by
  refine ⟨by rw [sv_length, Nat.mul_one], ?_⟩
  rcases h.2 with ⟨h0, rfl⟩ | ⟨g, cap, cur, h0, hb, hg, hnc, hcm, hcs, ht⟩
  · obtain rfl : k = 0 := by omega
    injection h0 with h1 h2 h3
    subst h1; subst h3
    exact .inl ⟨rfl, rfl⟩
  · injection h0 with h1 h2 h3
    subst h1; subst h3
    refine .inr ⟨g, c, cur, rfl, hb, hg, by omega, hcm, hcs, ?_⟩
    rw [← sv_take n s k hk, ← ht, List.take_take]
    congr 1
    omega
/-- What an operation of the document's answers: the area as it reads, and the error's number. -/
def DocRet (base : Int) (n : Nat) (bs : List UInt8) (s : Nat) (r : Int) (w : World) (e : Ending) (w' : World) : Prop :=
  ∃ A c S mc, e = .returned (.tuple #[.agg #[.int .i64 base, .slice A n c, .slice S n mc], .int .i64 r]) ∧ n ≤ c ∧ Bytes w' A n bs ∧ Safes w' S n s ∧ (∀ q, blkO A = some q → w.heap.size ≤ q ∧ q < w'.heap.size) ∧ (∀ q, blkO S = some q → w.heap.size ≤ q ∧ q < w'.heap.size) ∧ Below w.heap.size w w'
theorem docRet_own {w wf : World} {R : Nat} {base : Int} {n s : Nat} {bs : List UInt8} {A S : Option Addr} {c mc : Nat} {cs : Array Value} {t : TypeId} {r : Int}
    (h : Blk wf R cs t ∧ wf.ownsRow w.heap.size 5 1 (.slice A n c) n (bvals bs) ∧ wf.ownsRow w.heap.size 4 1 (.slice S n mc) n (sv n s) ∧ Below w.heap.size w wf) (hn : n ≤ 281474976710656) :
    DocRet base n bs s r w (.returned (.tuple #[.agg #[.int .i64 base, .slice A n c, .slice S n mc], .int .i64 r])) wf :=
  ⟨A, c, S, mc, rfl, own_cap7 h.2.1, own_bytes' h.2.1 hn, own_safes h.2.2.1 hn, fun q e => h.2.1.lt q (by rw [ownBlock_slice]; exact e), fun q e => h.2.2.1.lt q (by rw [ownBlock_slice]; exact e), h.2.2.2⟩
theorem docM_cut {w2 wx : World} {O : Nat} {base : Int} {n s : Nat} {bs : List UInt8} {A S : Option Addr} {c mc : Nat} (h : DocM w2 wx O base n n s bs A c S mc) (k : Nat) (hk : k ≤ n) :
    DocM w2 ((wx.setCell ⟨O, 1, none⟩ (.slice A k c)).setCell ⟨O, 2, none⟩ (.slice S k mc)) O base k k s (bs.take k) A c S mc := by
  have hC := (chg_set wx O 1 (.slice A k c)).set (.inl rfl) 2 (.slice S k mc)
  have oa := own_cut h.oa k hk
  have os : wx.ownsRow w2.heap.size 4 1 (.slice S k mc) k (sv k s) := own_cutS h.os k hk
  exact ⟨Blk.set (Blk.set h.blk 1 (.slice A k c)) 2 (.slice S k mc), own_chg oa hC (fun q e e2 => own_not_blk7 oa h.blk (by decide) (by rw [e, e2])), own_chg os hC (fun q e e2 => own_not_blk7 os h.blk (by decide) (by rw [e, e2])), (h.b.setCell (p := ⟨O, 1, none⟩) h.lo _).setCell (p := ⟨O, 2, none⟩) h.lo _, h.lo⟩
set_option maxHeartbeats 1600000 in
theorem refCut_any (base : Int) (A : Option Addr) (n c : Nat) (S : Option Addr) (mc s : Nat) (bs : List UInt8) (w : World) (k : Nat) (hk : k ≤ n)
    (hA : Bytes w A n bs) (hS : Safes w S n s) (hs : s ≤ n) (hn : n ≤ 214748364800000) (h0 : 0 ≤ base) (h1 : base + n ≤ 4612811918334230528) :
    Calls Try.prog 30 #[.agg #[.int .i64 base, .slice A n c, .slice S n mc], .int .i64 (base + k)] w (DocRet base k (bs.take k) s 0 w) := by
  have hB1 := below_alloc w (.cells #[.int .i64 base, .slice A n c, .slice S n mc] 46)
  have hD1 := Blk.fresh w #[.int .i64 base, .slice A n c, .slice S n mc] 46
  have hb2 := below_alloc (w.alloc (.cells #[.int .i64 base, .slice A n c, .slice S n mc] 46)) (.cells #[.int .i64 0, .slice none 0 0, .slice none 0 0] 46)
  have hR2 := Blk.fresh (w.alloc (.cells #[.int .i64 base, .slice A n c, .slice S n mc] 46)) #[.int .i64 0, .slice none 0 0, .slice none 0 0] 46
  have hB2 := below_then hB1 hb2 hB1.size
  have hD2 : Blk _ _ _ _ := hD1.keep hb2
  have hz : (w.alloc (.cells #[.int .i64 base, .slice A n c, .slice S n mc] 46)).heap.size = w.heap.size + 1 := by simp
  rw [hz] at hR2
  have t1 : decide (base + (k : Int) < base) = false := decide_eq_false (by omega)
  go_enter Try.func30, Try.ntmps30
  go_wp2_with fail
  generalize (w.alloc (.cells #[.int .i64 base, .slice A n c, .slice S n mc] 46)).alloc (.cells #[.int .i64 0, .slice none 0 0, .slice none 0 0] 46) = w2 at *
  obtain ⟨G, hG⟩ : ∃ G, w.heap.size = G := ⟨_, rfl⟩
  rw [hG] at hR2 hD2 ⊢
  have HG := Lib.hid hG
  clear hG hb2 hB1 hD1 hz
  have HLb := Lib.hid hA.1
  have d0 : w2.cell? ⟨G, 0, none⟩ = some (.int .i64 base) := hD2.cell 0
  have d1 : w2.cell? ⟨G, 1, none⟩ = some (.slice A n c) := hD2.cell 1
  have d2 : w2.cell? ⟨G, 2, none⟩ = some (.slice S n mc) := hD2.cell 2
  refine (refEnd_any base A n c (.slice S n mc) w2 h0 (by omega)).mono ?_
  rintro e w3 ⟨rfl, hb3⟩
  clear d0 d1 d2
  have d0 : w3.cell? ⟨G, 0, none⟩ = some (.int .i64 base) := (hD2.keep hb3).cell 0
  have d1 : w3.cell? ⟨G, 1, none⟩ = some (.slice A n c) := (hD2.keep hb3).cell 1
  have d2 : w3.cell? ⟨G, 2, none⟩ = some (.slice S n mc) := (hD2.keep hb3).cell 2
  have t2 : decide (base + (n : Int) < base + (k : Int)) = false := decide_eq_false (by omega)
  have hB3 := below_then hB2 hb3 hB2.size
  go_wp2_with fail
  refine (refCopy_any base A n c S mc s bs w3 (hA.below hB3) (hS.below hB3) hs hn).mono ?_
  rintro e w4 ⟨A3, c3, A4, c4, rfl, ho3, ho4, hb4⟩
  have hcA := own_cap7 ho3
  have hcS := own_cap7 ho4
  have hM0 := docM_alloc (base := base) ho3 ho4 hb4
  have hR3 := (hR2.keep hb3).keep hM0.b
  have hD3 := (hD2.keep hb3).keep hM0.b
  clear ho3 ho4 hb4
  go_wp2_with fail
  generalize w4.alloc (.cells #[.int .i64 base, .slice A3 n c3, .slice A4 n c4] 46) = w5 at *
  generalize w4.heap.size = O at *
  have o1 : w5.cell? ⟨O, 1, none⟩ = some (.slice A3 n c3) := hM0.blk.cell 1
  have o2 : w5.cell? ⟨O, 2, none⟩ = some (.slice A4 n c4) := hM0.blk.cell 2
  have f1 := hM0.blk.frozen 1
  have f2 := hM0.blk.frozen 2
  have e0 : w5.cell? ⟨G, 0, none⟩ = some (.int .i64 base) := hD3.cell 0
  have hkA : k ≤ c3 := by omega
  have hkS : k ≤ c4 := by omega
  go_cut [20] from 21 to 35 (fun u wx => DocM w3 wx O base k k s (bs.take k) A3 c3 A4 c4)
  case first =>
    go_region
    all_goals go_wp2_with fail
    all_goals go_meet
    all_goals
      simp only [show base + (k : Int) - base = k by omega, Int.toNat_natCast]
      exact (docM_cut hM0 k hk).below (below_drew7 _ 1)
  case rest =>
    have hM := hcut
    have hR := hR2.keep (below_then hb3 hM.b hb3.size)
    have g0 : wc.cell? ⟨G + 1, 0, none⟩ = some (.int .i64 0) := hR.cell 0
    have g1 : wc.cell? ⟨G + 1, 1, none⟩ = some (.slice none 0 0) := hR.cell 1
    have g2 : wc.cell? ⟨G + 1, 2, none⟩ = some (.slice none 0 0) := hR.cell 2
    have r0 := hR.frozen 0
    have r1 := hR.frozen 1
    have r2 := hR.frozen 2
    have o0 : wc.cell? ⟨O, 0, none⟩ = some (.int .i64 base) := hM.blk.cell 0
    have o1 : wc.cell? ⟨O, 1, none⟩ = some (.slice A3 k c3) := hM.blk.cell 1
    have o2 : wc.cell? ⟨O, 2, none⟩ = some (.slice A4 k c4) := hM.blk.cell 2
    have hF := docM_ret hM hR rfl (by rw [HG.out]; omega) hB3
    go_wp2
    refine bodyPost_ret (results_row_tmp rfl _ _ (G + 1) 46 _ (0, 0) _ rfl hF.1 Try.underlying46 rfl (by kernel_rfl) _ rfl) rfl ?_
    exact docRet_own hF (by omega)
end Go.Proofs.Ytbfnmfakagdpfaa
