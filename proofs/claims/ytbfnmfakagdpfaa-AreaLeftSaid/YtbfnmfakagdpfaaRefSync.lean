/- The document's area, walked: Sync, Cut, Trim. -/
import Derived.Test.YtbfnmfakagdpfaaRefArea
namespace Go.Proofs.Ytbfnmfakagdpfaa
open Go.RowKit
set_option linter.unusedVariables false
set_option linter.unusedSimpArgs false
theorem DocTo.at_ {w w' : World} {base : Int} {bs : List UInt8} {s : Nat} {e : Ending} (h : DocTo w base bs s e w') :
    ∃ A c S mc, e = .returned (.agg #[.int .i64 base, .slice A bs.length c, .slice S bs.length mc]) ∧ w'.ownsRow w.heap.size 5 1 (.slice A bs.length c) bs.length (bvals bs) ∧ w'.ownsRow w.heap.size 4 1 (.slice S bs.length mc) bs.length (sv bs.length s) ∧ Below w.heap.size w w' := h
/-- A copy: Append of nothing. -/
theorem refCopy_any (base : Int) (A : Option Addr) (n c : Nat) (S : Option Addr) (mc s : Nat) (bs : List UInt8) (w : World) (hA : Bytes w A n bs) (hS : Safes w S n s) (hs : s ≤ n) (hn : n ≤ 214748364800000) :
    Calls Try.prog 28 #[.agg #[.int .i64 base, .slice A n c, .slice S n mc], .slice none 0 0] w fun e w' => ∃ A' c' S' mc', e = .returned (.agg #[.int .i64 base, .slice A' n c', .slice S' n mc']) ∧ w'.ownsRow w.heap.size 5 1 (.slice A' n c') n (bvals bs) ∧ w'.ownsRow w.heap.size 4 1 (.slice S' n mc') n (sv n s) ∧ Below w.heap.size w w' := by
  refine (refAppend_any base A n c S mc s bs none 0 0 [] w hA hS hs (Bytes.empty _ _) hn).mono ?_
  intro e w' h
  rw [List.append_nil] at h
  obtain ⟨A', c', S', mc', h1, h2, h3, h4⟩ := h.at_
  rw [hA.1] at h1 h2 h3
  exact ⟨A', c', S', mc', h1, h2, h3, h4⟩
theorem DocM.sAddr {w2 wx : World} {O : Nat} {base : Int} {n m s : Nat} {bs : List UInt8} {A S : Option Addr} {c mc : Nat} (h : DocM w2 wx O base n m s bs A c S mc) (h0 : 0 < m) : ∃ g, S = some ⟨g, 0, none⟩ := by
  rcases h.os.2 with ⟨_, h1⟩ | ⟨g, cap, cur, h1, _⟩
  · omega
  · injection h1 with h1 h2 h3
    exact ⟨g, h1⟩
theorem DocM.aAddr {w2 wx : World} {O : Nat} {base : Int} {n m s : Nat} {bs : List UInt8} {A S : Option Addr} {c mc : Nat} (h : DocM w2 wx O base n m s bs A c S mc) (h0 : 0 < n) : ∃ g, A = some ⟨g, 0, none⟩ := by
  rcases h.oa.2 with ⟨_, h1⟩ | ⟨g, cap, cur, h1, _⟩
  · omega
  · injection h1 with h1 h2 h3
    exact ⟨g, h1⟩
/-- One byte more is safe. -/
theorem docM_safe {w2 wr : World} {O : Nat} {base : Int} {n m s i : Nat} {bs : List UInt8} {A : Option Addr} {g c mc : Nat} (h : DocM w2 wr O base n m (max i s) bs A c (some ⟨g, 0, none⟩) mc) : DocM w2 (wr.setCell ⟨g, i, none⟩ (.bool true)) O base n m (max (i + 1) s) bs A c (some ⟨g, 0, none⟩) mc := by
  have hst := h.os.stored i (.bool true)
  rw [sv_step] at hst
  have hg : w2.heap.size ≤ g := own_base h.os g rfl
  exact ⟨Blk.grown h.blk hst.2 (own_not_blk7 h.os h.blk (by decide)), h.oa.kept hst.2 (own_apart7 h.oa h.os (by decide)), hst.1, h.b.setCell (p := ⟨g, i, none⟩) hg _, h.lo⟩
set_option maxHeartbeats 1600000 in
theorem refSync_any (base : Int) (A : Option Addr) (n c : Nat) (S : Option Addr) (mc s : Nat) (bs : List UInt8) (w : World)
    (hA : Bytes w A n bs) (hS : Safes w S n s) (hs : s ≤ n) (hn : n ≤ 214748364800000) :
    Calls Try.prog 29 #[.agg #[.int .i64 base, .slice A n c, .slice S n mc]] w (DocTo w base bs bs.length) := by
  have hB1 := below_alloc w (.cells #[.int .i64 base, .slice A n c, .slice S n mc] 46)
  have hb2 := below_alloc (w.alloc (.cells #[.int .i64 base, .slice A n c, .slice S n mc] 46)) (.cells #[.int .i64 0, .slice none 0 0, .slice none 0 0] 46)
  have hR2 := Blk.fresh (w.alloc (.cells #[.int .i64 base, .slice A n c, .slice S n mc] 46)) #[.int .i64 0, .slice none 0 0, .slice none 0 0] 46
  have hB2 := below_then hB1 hb2 hB1.size
  have hz : (w.alloc (.cells #[.int .i64 base, .slice A n c, .slice S n mc] 46)).heap.size = w.heap.size + 1 := by simp
  rw [hz] at hR2
  go_enter Try.func29, Try.ntmps29
  go_wp2_with fail
  generalize (w.alloc (.cells #[.int .i64 base, .slice A n c, .slice S n mc] 46)).alloc (.cells #[.int .i64 0, .slice none 0 0, .slice none 0 0] 46) = w2 at *
  obtain ⟨G, hG⟩ : ∃ G, w.heap.size = G := ⟨_, rfl⟩
  rw [hG] at hR2 ⊢
  have HG := Lib.hid hG
  clear hG hb2 hB1 hz
  have HLb := Lib.hid hA.1
  refine (refCopy_any base A n c S mc s bs w2 (hA.below hB2) (hS.below hB2) hs hn).mono ?_
  rintro e w3 ⟨A3, c3, A4, c4, rfl, ho3, ho4, hb3⟩
  have hM0 := docM_alloc (base := base) ho3 ho4 hb3
  have hR3 := hR2.keep hM0.b
  clear ho3 ho4 hb3
  go_wp2_with fail
  generalize w3.alloc (.cells #[.int .i64 base, .slice A3 n c3, .slice A4 n c4] 46) = w4 at *
  generalize w3.heap.size = O at *
  go_loopw [4] (fun i wr => ∃ k : Nat, k ≤ n ∧ i = .int .i64 k ∧ DocM w2 wr O base n n (max k s) bs A3 c3 A4 c4) (fun i _ => n - (intOf i).toNat)
  case atStart => exact ⟨0, by omega, rfl, by rw [show max 0 s = s by omega]; exact hM0⟩
  case round =>
    clear hM0 hR3
    obtain ⟨k, hk, rfl, hM⟩ := hrel
    have o2 : wr.cell? ⟨O, 2, none⟩ = some (.slice A4 n c4) := hM.blk.cell 2
    by_cases hlt : k < n
    · obtain ⟨g, rfl⟩ := hM.sAddr (by omega)
      have hc : wr.cell? ⟨g, k, none⟩ = some (.bool (decide (k < max k s))) := (hM.os.cellAt k (by omega)).trans (sv_at _ _ _ hlt)
      have hf := hM.os.frozenAt k
      have hN := docM_safe hM
      go_wp2_with fail
      go_roundw
      case rel => exact ⟨k + 1, by omega, by go_num, hN⟩
      case measure => simp [intOf]; omega
    · obtain rfl : k = n := by omega
      rw [show max k s = k by omega] at hM
      have hR := hR2.keep hM.b
      have g0 : wr.cell? ⟨G + 1, 0, none⟩ = some (.int .i64 0) := hR.cell 0
      have g1 : wr.cell? ⟨G + 1, 1, none⟩ = some (.slice none 0 0) := hR.cell 1
      have g2 : wr.cell? ⟨G + 1, 2, none⟩ = some (.slice none 0 0) := hR.cell 2
      have h0 := hR.frozen 0
      have h1 := hR.frozen 1
      have h2 := hR.frozen 2
      have o0 : wr.cell? ⟨O, 0, none⟩ = some (.int .i64 base) := hM.blk.cell 0
      have o1 : wr.cell? ⟨O, 1, none⟩ = some (.slice A3 k c3) := hM.blk.cell 1
      have hF := docM_ret hM hR rfl (by rw [HG.out]; omega) hB2
      go_wp2
      refine bodyPost_ret (results_cell_row rfl _ _ (G + 1) 46 _ (0, 0) _ rfl hF.1 Try.underlying46 rfl (by kernel_rfl)) rfl ⟨A3, c3, A4, c4, ?_, ?_, ?_, hF.2.2.2⟩
      · rw [HLb.out]; rfl
      · rw [HLb.out]; exact hF.2.1
      · rw [HLb.out]; exact hF.2.2.1
end Go.Proofs.Ytbfnmfakagdpfaa
