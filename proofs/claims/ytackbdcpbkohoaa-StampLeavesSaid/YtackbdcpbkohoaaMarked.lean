/- Lists that grow, and their marks: the law package's grown and marked, walked; rows that lie apart. -/
import Derived.Test.YtackbdcpbkohoaaTakeW
namespace Go.Proofs.Ytackbdcpbkohoaa
open Go.RowKit
/-- Two rows lie apart. -/
def Apart (v u : Value) : Prop := v.ownBlock = none ∨ v.ownBlock ≠ u.ownBlock
theorem Apart.symm {v u : Value} (h : Apart v u) : Apart u v := by
  unfold Apart at *
  cases hu : u.ownBlock with
  | none => exact .inl rfl
  | some b =>
    rcases h with h | h
    · exact .inr (by rw [h]; simp)
    · rw [hu] at h
      exact .inr (Ne.symm h)
theorem apart_bases {w0 w1 : World} {B0 B1 : Nat} {e0 e1 : TypeId} {z0 z1 n0 n1 : Nat} {v u : Value} {xs ys : List Value} (hv : w1.ownsRow B1 e1 z1 v n1 xs) (hu : w0.ownsRow B0 e0 z0 u n0 ys) (h : w0.heap.size ≤ B1) : Apart v u := by
  unfold Apart
  rcases hv.2 with ⟨rfl, _⟩ | ⟨g, cap, cur, rfl, hg, _⟩
  · exact .inl rfl
  · refine .inr fun e => ?_
    have := hu.lt g e.symm
    omega
/-- A row that grew lies apart from what lay apart from it. -/
theorem Apart.grow {w : World} {B : Nat} {e : TypeId} {z n : Nat} {u v v' : Value} {ys : List Value} (h : Apart u v) (hu : w.ownsRow B e z u n ys) (hL : v'.ownBlock = v.ownBlock ∨ ∃ b, v'.ownBlock = some b ∧ w.heap.size ≤ b) : Apart u v' := by
  rcases hL with e | ⟨b, e, hb⟩
  · unfold Apart; rw [e]; exact h
  · rcases hu.2 with ⟨rfl, _⟩ | ⟨g, cap, cur, rfl, _⟩
    · exact .inl rfl
    · refine .inr fun e2 => ?_
      rw [e] at e2
      have := hu.lt b e2
      omega
/-- What a list that was grown is. -/
def GrownRet (B : Nat) (A : Option Addr) (n c : Nat) (zs : List Int) (w : World) (e : Ending) (w' : World) : Prop :=
  ∃ A' c', e = .returned (.slice A' (n + 80) c') ∧ w'.ownsRow B 3 1 (.slice A' (n + 80) c') (n + 80) (ivals zs) ∧ w.grownBy w' (Value.ownBlock (.slice A n c)) ∧
    (Value.ownBlock (.slice A' (n + 80) c') = Value.ownBlock (.slice A n c) ∨ ∃ b, Value.ownBlock (.slice A' (n + 80) c') = some b ∧ w.heap.size ≤ b)
theorem grow_more {w w1 w2 : World} {v0 v1 v2 : Option Nat} (h : w.grownBy w1 v0) (k : w1.grownBy w2 v1) (hv : v1 = v0 ∨ ∃ b, v1 = some b ∧ w.heap.size ≤ b) (hv2 : v2 = v1 ∨ ∃ b, v2 = some b ∧ w1.heap.size ≤ b) : w.grownBy w2 v0 ∧ (v2 = v0 ∨ ∃ b, v2 = some b ∧ w.heap.size ≤ b) := by
  refine ⟨⟨k.os.trans h.os, k.tape.trans h.tape, k.output.trans h.output, Nat.le_trans h.size k.size, fun i hi hr => ?_⟩, ?_⟩
  · refine (k.block i (Nat.lt_of_lt_of_le hi h.size) ?_).trans (h.block i hi hr)
    rcases hv with rfl | ⟨b, rfl, hb⟩
    · exact hr
    · intro e
      cases e
      omega
  · rcases hv2 with rfl | ⟨b, rfl, hb⟩
    · exact hv
    · exact .inr ⟨b, rfl, Nat.le_trans h.size hb⟩
set_option maxHeartbeats 800000 in
theorem grown_any (B : Nat) (A : Option Addr) (n c : Nat) (zs : List Int) (mk : Int) (w : World) (ho : w.ownsRow B 3 1 (.slice A n c) n (ivals zs)) (hB : B ≤ w.heap.size) (hn : n * 8 ≤ 150000000000000) :
    Calls Try.prog 30 #[.slice A n c, .int .i64 mk] w (GrownRet B A n c (zs ++ List.replicate 80 mk) w) := by
  go_enter Try.func30, Try.ntmps30
  go_wp2
  go_loopw [0, 5] (fun v i wr => ∃ k : Nat, ∃ A1 c1, k ≤ 80 ∧ i = .int .i64 k ∧ v = .slice A1 (n + k) c1 ∧ wr.ownsRow B 3 1 (.slice A1 (n + k) c1) (n + k) (ivals (zs ++ List.replicate k mk)) ∧ B ≤ wr.heap.size ∧ w.grownBy wr (Value.ownBlock (.slice A n c)) ∧
    (Value.ownBlock (.slice A1 (n + k) c1) = Value.ownBlock (.slice A n c) ∨ ∃ b, Value.ownBlock (.slice A1 (n + k) c1) = some b ∧ w.heap.size ≤ b)) (fun _ i _ => 80 - (intOf i).toNat)
  case atStart => exact ⟨0, A, c, by omega, rfl, rfl, by simpa using ho, hB, World.grownBy.refl _ _, .inl rfl⟩
  case round =>
    obtain ⟨k, A1, c1, hk, rfl, rfl, hor, hBr, hgr, hv⟩ := hrel
    have HV := Lib.hid hv
    have HG := Lib.hid hgr
    clear hv hgr ho
    by_cases hlt : k < 80
    · have hBa := below_alloc wr (.cells #[.int .i64 mk] 3)
      have hora := own_below hor hBa
      have hR := rdc_block (heap_alloc_new wr (.cells #[.int .i64 mk] 3))
      have hGa := Lib.hid (grown_trans HG.out (grown_of_below hBa (Value.ownBlock (.slice A n c))))
      have hs : B ≤ (wr.alloc (.cells #[.int .i64 mk] 3)).heap.size := Nat.le_trans hBr hBa.size
      go_wp2_with (at_builtin; refine wpl_append _ rfl (.tmp 10) (.tmp 12) 22 rfl B 3 _ 1 8 Try.underlying22 info_int rfl (by decide) (.slice A1 (n + k) c1) (n + k) _ rfl hora _ 1 _ _ rfl hR (ivals_one [mk]) (by decide) (by decide) (by omega) hs ?_; intro A2 c3 wa hown2 hgr2 hne2 hnn2; clear hnn2)
      obtain ⟨g1, g2⟩ := grow_more hGa.out hgr2 HV.out hne2
      have hsz := Nat.le_trans hs hgr2.size
      rw [show ivals (zs ++ List.replicate k mk) ++ (#[Value.int .i64 mk]).toList = ivals (zs ++ List.replicate (k + 1) mk) by rw [List.replicate_succ', ← List.append_assoc]; exact (ivals_append _ [mk]).symm] at hown2
      go_roundw
      case rel => exact ⟨k + 1, A2, c3, by omega, by go_num, rfl, hown2, hsz, g1, g2⟩
      case measure => simp [intOf]; omega
    · obtain rfl : k = 80 := by omega
      go_wp2
      go_ret
      exact ⟨A1, c1, rfl, hor, HG.out, HV.out⟩
theorem marks_at (n : Nat) (mk more : Int) (k : Nat) (hk : k < n + 80) : (List.replicate n mk ++ List.replicate 80 more).getD k 0 = if k < n then mk else more := by
  rw [List.getD_eq_getElem?_getD, List.getElem?_append]
  simp only [List.length_replicate]
  split
  · rw [List.getElem?_replicate, if_pos (by assumption)]; rfl
  · rw [List.getElem?_replicate, if_pos (by omega)]; rfl
set_option maxRecDepth 100000 in
set_option maxHeartbeats 800000 in
theorem marked_any (A : Option Addr) (n c : Nat) (mk more : Int) (w : World) (ho : Ints w A (n + 80) (List.replicate n mk ++ List.replicate 80 more)) :
    Calls Try.prog 31 #[.slice A (n + 80) c, .int .i64 n, .int .i64 mk, .int .i64 more] w fun e w' => e = .returned (.bool true) ∧ w = w' := by
  have hn := ho.2.1
  go_enter Try.func31, Try.ntmps31
  go_wp2
  go_loop [9, 17] (fun _ i => ∃ k : Nat, k ≤ n + 80 ∧ i = .int .i64 k) (fun _ i => n + 80 - (intOf i).toNat)
  case atStart => exact ⟨0, by omega, rfl⟩
  case round =>
    obtain ⟨k, hk, rfl⟩ := hrel
    by_cases hlt : k < n + 80
    · obtain ⟨b1, o1, rfl, h1⟩ := ho.at_ k hlt
      rw [marks_at n mk more k hlt] at h1
      by_cases hkn : k < n
      · rw [if_pos hkn] at h1
        go_wp2
        go_round
        case rel => exact ⟨k + 1, by omega, by go_num⟩
        case measure => simp [intOf]; omega
      · rw [if_neg hkn] at h1
        go_wp2
        go_round
        case rel => exact ⟨k + 1, by omega, by go_num⟩
        case measure => simp [intOf]; omega
    · obtain rfl : k = n + 80 := by omega
      go_wp2
      go_ret
      exact ⟨rfl, rfl⟩
end Go.Proofs.Ytackbdcpbkohoaa
