/- The law package's and both packages' helpers over lists of numbers: copied, same, Below. -/
import Derived.Test.YtackbdcpbkohoaaBlk
import Derived.Test.YtackbdcpbkohoaaInts
import Derived.Deep.QuietTactic
import Derived.BigQuiet
namespace Go.Proofs.Ytackbdcpbkohoaa
open Go.RowKit
theorem info_int : (Try.prog.info? 3).map (fun i => (i.zero, i.size, i.bytes)) = some (some (.int .i64 0), 1, 8) := by kernel_rfl
set_option maxHeartbeats 400000 in
theorem copied_any (A : Option Addr) (l c : Nat) (zs : List Int) (w : World) (hb : Ints w A l zs) (hl : l * 8 ≤ 140737488355328) :
    Calls Try.prog 12 #[.slice A l c] w fun e w' => ∃ A' c', e = .returned (.slice A' l c') ∧ w'.ownsRow w.heap.size 3 1 (.slice A' l c') l (ivals zs) ∧ Below w.heap.size w w' ∧ A' ≠ none := by
  go_enter Try.func12, Try.ntmps12
  have H0 := World.ownsRow_made (e := 3) (size := 1) w #[] 0 (Nat.le_refl _) (by simp [maxLen]) rfl
  have hR := (hb.below ((Below.refl _ w).alloc (Nat.le_refl _) (.cells #[] 3))).rdc
  go_wp2_with (at_builtin; refine wpl_append _ rfl (.tmp 3) (.tmp 4) 22 rfl w.heap.size 3 _ 1 8 Try.underlying22 info_int rfl (by decide) (.slice (some ⟨w.heap.size, 0, none⟩) 0 0) 0 [] rfl H0 A l c (ivals zs) rfl hR (ivals_one zs) (by decide) (by decide) (by omega) (by simp) ?_; intro A' c' w' hown hgr hne hnn; simp only [Nat.zero_add, List.nil_append] at hown ⊢; have hA := hnn (.inr (by simp)); clear hnn hne)
  go_ret
  exact ⟨A', c', rfl, hown, ((Below.refl _ w).alloc (Nat.le_refl _) _).grown hgr (by simp) (fun k h => by simp [Value.ownBlock] at h; omega), hA⟩
set_option maxHeartbeats 400000 in
theorem same_any (A B : Option Addr) (la ca lb cb : Nat) (ys zs : List Int) (w : World) (hy : Ints w A la ys) (hz : Ints w B lb zs) :
    Calls Try.prog 14 #[.slice A la ca, .slice B lb cb] w (SameRet (decide (ys = zs)) w) := by
  have hya := Lib.hid hy.1
  have hza := Lib.hid hz.1
  have hl1 := hy.2.1
  by_cases hlen : la = lb
  · subst hlen
    go_enter Try.func14, Try.ntmps14
    go_wp2
    go_loopw [5, 13] (fun _ i wr => ∃ k : Nat, k ≤ la ∧ i = .int .i64 k ∧ Below w.heap.size w wr ∧ ∀ j, j < k → ys.getD j 0 = zs.getD j 0) (fun _ i _ => la - (intOf i).toNat)
    case atStart => exact ⟨0, by omega, rfl, Below.refl _ _, fun j hj => by omega⟩
    case round =>
      obtain ⟨k, hk, rfl, hB, hall⟩ := hrel
      have HA := Lib.hid hall
      clear hall
      by_cases hlt : k < la
      · obtain ⟨b1, o1, rfl, h1⟩ := (hy.below hB).at_ k hlt
        obtain ⟨b2, o2, rfl, h2⟩ := (hz.below hB).at_ k hlt
        by_cases heq : ys.getD k 0 = zs.getD k 0
        · rw [← heq] at h2
          have HE := Lib.hid heq
          clear heq
          generalize hyy : ys.getD k 0 = y at h1 h2
          clear hyy
          have i0 : (0 : Int) ≤ (k : Int) := by omega
          have i1 : (k : Int) < (la : Int) := by omega
          go_wp2_with fail
          go_quiet (fail)
          go_wp2
          go_roundw
          case rel => exact ⟨k + 1, by omega, by go_num, hB.trans ((below_drews _ _).mono hB.size), fun j hj => by
            by_cases e : j = k
            · subst e; exact HE.out
            · exact HA.out j (by omega)⟩
          case measure => simp [intOf]; omega
        · have HE := Lib.hid (show ys ≠ zs from fun h => heq (by rw [h]))
          have hne : (ys.getD k 0 != zs.getD k 0) = true := by rw [bne_iff_ne]; exact heq
          clear heq
          generalize ys.getD k 0 = y at *
          generalize zs.getD k 0 = z at *
          have i0 : (0 : Int) ≤ (k : Int) := by omega
          have i1 : (k : Int) < (la : Int) := by omega
          go_wp2_with fail
          go_quiet (fail)
          go_wp2
          go_ret
          exact ⟨by simp [HE.out], hB.trans ((below_drews _ _).mono hB.size)⟩
      · obtain rfl : k = la := by omega
        go_wp2
        go_ret
        refine ⟨?_, hB⟩
        have : ys = zs := (list_eq_iff ys zs (hya.out.trans hza.out.symm)).2 (by rw [hya.out]; exact HA.out)
        simp [this]
  · have hne : ((la : Int) != (lb : Int)) = true := by rw [bne_iff_ne]; omega
    go_enter Try.func14, Try.ntmps14
    go_wp2
    go_ret
    refine ⟨?_, Below.refl _ _⟩
    have : ys ≠ zs := by rintro rfl; exact hlen (hya.out.symm.trans hza.out)
    simp [this]
/-- Is a list nowhere above another? -/
def belowB (ys zs : List Int) : Bool := decide (ys.length = zs.length ∧ ∀ i, i < ys.length → ys.getD i 0 ≤ zs.getD i 0)
theorem belowB_yes {ys zs : List Int} (h : ys.length = zs.length) (k : ∀ i, i < ys.length → ys.getD i 0 ≤ zs.getD i 0) : belowB ys zs = true := decide_eq_true ⟨h, k⟩
theorem belowB_no {ys zs : List Int} (i : Nat) (hi : i < ys.length) (k : zs.getD i 0 < ys.getD i 0) : belowB ys zs = false := decide_eq_false fun h => by have := h.2 i hi; omega
theorem belowB_len {ys zs : List Int} (h : ys.length ≠ zs.length) : belowB ys zs = false := decide_eq_false fun k => h k.1
set_option maxHeartbeats 400000 in
theorem below_any (A B : Option Addr) (la ca lb cb : Nat) (ys zs : List Int) (w : World) (hy : Ints w A la ys) (hz : Ints w B lb zs) :
    Calls Try.prog 11 #[.slice A la ca, .slice B lb cb] w fun e w' => e = .returned (.bool (belowB ys zs)) ∧ w = w' := by
  have hya := Lib.hid hy.1
  have hza := Lib.hid hz.1
  have hl1 := hy.2.1
  by_cases hlen : la = lb
  · subst hlen
    go_enter Try.func11, Try.ntmps11
    go_wp2
    go_loop [5, 6, 14] (fun _ _ i => ∃ k : Nat, k ≤ la ∧ i = .int .i64 k ∧ ∀ j, j < k → ys.getD j 0 ≤ zs.getD j 0) (fun _ _ i => la - (intOf i).toNat)
    case atStart => exact ⟨0, by omega, rfl, fun j hj => by omega⟩
    case round =>
      obtain ⟨k, hk, rfl, hall⟩ := hrel
      have HA := Lib.hid hall
      clear hall
      by_cases hlt : k < la
      · obtain ⟨b1, o1, rfl, h1⟩ := hy.at_ k hlt
        obtain ⟨b2, o2, rfl, h2⟩ := hz.at_ k hlt
        have i0 : (0 : Int) ≤ (k : Int) := by omega
        have i1 : (k : Int) < (la : Int) := by omega
        by_cases hle : ys.getD k 0 ≤ zs.getD k 0
        · have HE := Lib.hid hle
          generalize ys.getD k 0 = y at h1 hle
          generalize zs.getD k 0 = z at h2 hle
          go_wp2
          go_round
          case rel => exact ⟨k + 1, by omega, by go_num, fun j hj => by
            by_cases e : j = k
            · subst e; exact HE.out
            · exact HA.out j (by omega)⟩
          case measure => simp [intOf]; omega
        · have HE := Lib.hid (belowB_no (ys := ys) (zs := zs) k (by rw [hya.out]; exact hlt) (by omega))
          generalize ys.getD k 0 = y at h1 hle
          generalize zs.getD k 0 = z at h2 hle
          go_wp2
          go_ret
          exact ⟨by rw [HE.out]; rfl, rfl⟩
      · obtain rfl : k = la := by omega
        go_wp2
        go_ret
        exact ⟨by rw [belowB_yes (hya.out.trans hza.out.symm) (by rw [hya.out]; exact HA.out)]; rfl, rfl⟩
  · have hne : ((la : Int) != (lb : Int)) = true := by rw [bne_iff_ne]; omega
    go_enter Try.func11, Try.ntmps11
    go_wp2
    go_ret
    exact ⟨by rw [belowB_len (by rw [hya.out, hza.out]; exact hlen)]; rfl, rfl⟩
set_option maxHeartbeats 400000 in
theorem refBelow_any (A B : Option Addr) (la ca lb cb : Nat) (ys zs : List Int) (w : World) (hy : Ints w A la ys) (hz : Ints w B lb zs) :
    Calls Try.prog 13 #[.slice A la ca, .slice B lb cb] w (SameRet (belowB ys zs) w) := by
  have hya := Lib.hid hy.1
  have hza := Lib.hid hz.1
  have hl1 := hy.2.1
  by_cases hlen : la = lb
  · subst hlen
    go_enter Try.func13, Try.ntmps13
    go_wp2
    go_loopw [5] (fun i wr => ∃ k : Nat, k ≤ la ∧ i = .int .i64 k ∧ Below w.heap.size w wr ∧ ∀ j, j < k → ys.getD j 0 ≤ zs.getD j 0) (fun i _ => la - (intOf i).toNat)
    case atStart => exact ⟨0, by omega, rfl, Below.refl _ _, fun j hj => by omega⟩
    case round =>
      obtain ⟨k, hk, rfl, hB, hall⟩ := hrel
      have HA := Lib.hid hall
      clear hall
      by_cases hlt : k < la
      · obtain ⟨b1, o1, rfl, h1⟩ := (hy.below hB).at_ k hlt
        obtain ⟨b2, o2, rfl, h2⟩ := (hz.below hB).at_ k hlt
        have i0 : (0 : Int) ≤ (k : Int) := by omega
        have i1 : (k : Int) < (la : Int) := by omega
        by_cases hle : ys.getD k 0 ≤ zs.getD k 0
        · have HE := Lib.hid hle
          generalize ys.getD k 0 = y at h1 hle
          generalize zs.getD k 0 = z at h2 hle
          go_wp2_with fail
          go_quiet (fail)
          go_wp2
          go_roundw
          case rel => exact ⟨k + 1, by omega, by go_num, hB.trans ((below_drews _ _).mono hB.size), fun j hj => by
            by_cases e : j = k
            · subst e; exact HE.out
            · exact HA.out j (by omega)⟩
          case measure => simp [intOf]; omega
        · have HE := Lib.hid (belowB_no (ys := ys) (zs := zs) k (by rw [hya.out]; exact hlt) (by omega))
          generalize ys.getD k 0 = y at h1 hle
          generalize zs.getD k 0 = z at h2 hle
          go_wp2_with fail
          go_quiet (fail)
          go_wp2
          go_ret
          exact ⟨by rw [HE.out]; simp <;> omega, hB.trans ((below_drews _ _).mono hB.size)⟩
      · obtain rfl : k = la := by omega
        go_wp2
        go_ret
        exact ⟨by rw [belowB_yes (hya.out.trans hza.out.symm) (by rw [hya.out]; exact HA.out)]; rfl, hB⟩
  · have hne : ((la : Int) != (lb : Int)) = true := by rw [bne_iff_ne]; omega
    go_enter Try.func13, Try.ntmps13
    go_wp2
    go_ret
    exact ⟨by rw [belowB_len (by rw [hya.out, hza.out]; exact hlen)]; rfl, Below.refl _ _⟩
end Go.Proofs.Ytackbdcpbkohoaa
