/- A vector of clocks: stamp.Take, walked. -/
import Derived.Test.YtackbdcpbkohoaaClocks
namespace Go.Proofs.Ytackbdcpbkohoaa
open Go.RowKit
/-- What a vector says at a place. -/
def takeAt (xs : List Ck) (ps : List Int) (j : Nat) : Int :=
  match xs[j]? with
  | some (some (_, s, _)) => if (j : Int) ∈ ps then s else -1
  | _ => -1
def takeL (xs : List Ck) (ps : List Int) : List Int := (List.range xs.length).map (takeAt xs ps)
theorem takeL_length (xs : List Ck) (ps : List Int) : (takeL xs ps).length = xs.length := by simp [takeL]
theorem takeL_at (xs : List Ck) (ps : List Int) (j : Nat) (h : j < xs.length) : (takeL xs ps).getD j 0 = takeAt xs ps j := by
  simp [takeL, List.getD_eq_getElem?_getD, h]
theorem takeL_eq (xs : List Ck) (ps : List Int) (zs : List Int) (hl : zs.length = xs.length) (h : ∀ j, j < xs.length → zs.getD j 0 = takeAt xs ps j) : zs = takeL xs ps := by
  refine (list_eq_iff _ _ (by rw [takeL_length, hl])).2 fun j hj => ?_
  rw [takeL_at _ _ _ (by omega)]
  exact h j (by omega)
theorem takeAt_nil (xs : List Ck) (j : Nat) : takeAt xs [] j = -1 := by
  unfold takeAt
  split <;> simp
theorem take_succ_mem {ps : List Int} {k : Nat} (hk : k < ps.length) (j : Int) : (j ∈ ps.take (k + 1)) ↔ (j ∈ ps.take k ∨ j = ps.getD k 0) := by
  rw [List.take_succ_eq_append_getElem hk, List.mem_append, List.mem_singleton, List.getD_eq_getElem?_getD, List.getElem?_eq_getElem hk]
  rfl
/-- One more place that says nothing new. -/
theorem takeAt_skip {xs : List Ck} {ps : List Int} {k : Nat} (hk : k < ps.length) (j : Nat) (h : (j : Int) ≠ ps.getD k 0 ∨ ∀ g s a, xs[j]? ≠ some (some (g, s, a))) : takeAt xs (ps.take (k + 1)) j = takeAt xs (ps.take k) j := by
  unfold takeAt
  split
  · rename_i g s a e
    rcases h with h | h
    · simp only [take_succ_mem hk, h, or_false]
    · exact absurd e (h g s a)
  · rfl
theorem takeAt_hit {xs : List Ck} {ps : List Int} {k : Nat} (hk : k < ps.length) (j g : Nat) (s a : Int) (hx : xs[j]? = some (some (g, s, a))) (h : (j : Int) = ps.getD k 0) : takeAt xs (ps.take (k + 1)) j = s := by
  unfold takeAt
  rw [hx]
  simp only [take_succ_mem hk, h, or_true, if_true]
/-- A list that is made anew. -/
def NewL (n : Nat) (zs : List Int) (w : World) (e : Ending) (w' : World) : Prop :=
  ∃ A c, e = .returned (.slice A n c) ∧ w'.ownsRow w.heap.size 3 1 (.slice A n c) n (ivals zs) ∧ Below w.heap.size w w'
theorem RdC.at_ {w : World} {A : Option Addr} {n : Nat} {cs : List Value} (h : RdC w A n cs) (hA : n ≠ 0 → ∃ b o, A = some ⟨b, o, none⟩) (k : Nat) (v : Value) (hk : cs[k]? = some v) : ∃ b o, A = some ⟨b, o, none⟩ ∧ w.cell? ⟨b, o + k, none⟩ = some v := by
  have hlt : k < n := by rw [← h.1]; exact (List.getElem?_eq_some_iff.1 hk).1
  obtain ⟨b, o, rfl⟩ := hA (by omega)
  obtain ⟨ad, e, hc⟩ := h.2 k v hk
  injection e with e
  subst e
  rw [add_plain] at hc
  exact ⟨b, o, rfl, hc⟩
/-- A row that is owned reads so at each cell. -/
theorem own_cell {w : World} {B : Nat} {e : TypeId} {z n c : Nat} {A : Option Addr} {xs : List Value} (h : w.ownsRow B e z (.slice A n c) n xs) (k : Nat) (v : Value) (hk : xs[k]? = some v) : ∃ b, A = some ⟨b, 0, none⟩ ∧ w.cell? ⟨b, 0 + k, none⟩ = some v := by
  rcases h.2 with ⟨e1, rfl⟩ | ⟨g, cap, cur, e1, _⟩
  · have : k < xs.length := (List.getElem?_eq_some_iff.1 hk).1
    rw [h.1] at this
    omega
  · injection e1 with e1 e2 e3
    subst e1
    have := h.cells (g := g) rfl k v hk
    rw [add_plain] at this
    exact ⟨g, rfl, this⟩
theorem rcl_at (xs : List Ck) (i : Nat) (x : Ck) (h : xs[i]? = some x) : (xs.flatMap rcl)[i * 3]? = some (.bool (rB x)) ∧ (xs.flatMap rcl)[i * 3 + 1]? = some (.int .i64 (rS x)) ∧ (xs.flatMap rcl)[i * 3 + 2]? = some (.int .i64 (rW x)) := by
  induction xs generalizing i with
  | nil => simp at h
  | cons y ys ih =>
    cases i with
    | zero =>
      simp only [List.getElem?_cons_zero, Option.some.injEq] at h
      subst h
      simp [List.flatMap_cons, rcl]
    | succ i =>
      simp only [List.getElem?_cons_succ] at h
      have := ih i h
      rw [List.flatMap_cons]
      have e : ∀ j, (rcl y ++ ys.flatMap rcl)[(i + 1) * 3 + j]? = (ys.flatMap rcl)[i * 3 + j]? := by
        intro j
        rw [List.getElem?_append_right (by simp [rcl]; omega)]
        congr 1
        simp [rcl]
        omega
      have e0 := e 0
      rw [Nat.add_zero, Nat.add_zero] at e0
      rw [e0, e 1, e 2]
      exact this
set_option maxRecDepth 100000 in
set_option maxHeartbeats 1600000 in
theorem take_any (A : Option Addr) (n c : Nat) (xs : List Ck) (P : Option Addr) (m pc : Nat) (ps : List Int) (w : World) (B B2 : Nat) (hx : w.ownsRow B 29 1 (.slice A n c) n (xs.map ptrV)) (hl : xs.length = n) (hc : Clks B2 w xs) (hp : Ints w P m ps) (hn : n * 8 ≤ 140737488355328) :
    Calls Try.prog 28 #[.slice A n c, .slice P m pc] w (NewL n (takeL xs ps) w) := by
  obtain ⟨i0, hi, hz0, hz1, hz2⟩ := info_parts info_int
  have HP := Lib.hid hp.1
  have hm := hp.2.1
  have HL := Lib.hid hl
  clear hl
  go_enter Try.func28, Try.ntmps28
  go_wp2_with (at_make; refine wpList_make_full _ rfl (.tmp 10) (.tmp 10) 22 rfl w.heap.size 3 i0 (.int .i64 0) 1 Try.underlying22 hi hz0 hz1 .i64 .i64 _ _ n rfl rfl rfl rfl (by rw [hz2]; omega) (by simp [maxLen]; omega) (Nat.le_refl _) ?_; intro w1 hown hgr; rw [Nat.mul_one] at hown)
  have hB1 := below_of_grown hgr (Nat.le_refl _) (fun k h => by cases h)
  have hz : (madeCells (Value.int .i64 0).cells n).toList = ivals (List.replicate n 0) := by
    rw [show (Value.int .i64 0).cells = #[Value.int .i64 0] from rfl, toList_madeCells_one]
    simp [ivals]
  rw [hz] at hown
  go_loopw [6, 14] (fun _ i wr => ∃ k : Nat, ∃ zs : List Int, k ≤ n ∧ i = .int .i64 k ∧ zs.length = n ∧ wr.ownsRow w.heap.size 3 1 (.slice (some ⟨w.heap.size, 0, none⟩) n n) n (ivals zs) ∧ Below w.heap.size w wr ∧ ∀ j : Nat, j < k → zs.getD j 0 = -1) (fun _ i _ => n - (intOf i).toNat)
  case atStart => exact ⟨0, _, by omega, rfl, by simp, hown, hB1, fun j hj => by omega⟩
  case round =>
    clear hown hB1 hgr hz
    obtain ⟨k, zs, hk, rfl, hzl, hor, hBr, hall⟩ := hrel
    have HZ := Lib.hid hzl
    have HA := Lib.hid hall
    clear hzl hall
    by_cases hlt : k < n
    · have hcc : wr.cell? ⟨w.heap.size, k, none⟩ = some (.int .i64 (zs.getD k 0)) := (hor.cellAt k (by omega)).trans (ivals_at zs k (by rw [HZ.out]; exact hlt))
      have hf := hor.frozenAt k
      have hst := hor.stored k (.int .i64 (-1))
      rw [ivals_set] at hst
      have hB2 : Below w.heap.size w (wr.setCell ⟨w.heap.size, k, none⟩ (.int .i64 (-1))) := hBr.setCell (Nat.le_refl _) _
      have hA2 := Lib.hid (show ∀ j : Nat, j < k + 1 → (zs.set k (-1)).getD j 0 = -1 from fun j hj => by
        by_cases e : j = k
        · subst e
          rw [List.getD_eq_getElem?_getD, List.getElem?_set_self (by rw [HZ.out]; exact hlt)]
          rfl
        · rw [List.getD_eq_getElem?_getD, List.getElem?_set_ne (by omega), ← List.getD_eq_getElem?_getD]
          exact HA.out j (by omega))
      have hZ2 := Lib.hid (show (zs.set k (-1)).length = n by simpa using HZ.out)
      go_wp2
      go_roundw
      case rel => exact ⟨k + 1, _, by omega, by go_num, hZ2.out, hst.1, hB2, hA2.out⟩
      case measure => simp [intOf]; omega
    · obtain rfl : k = n := by omega
      have hZ0 := Lib.hid (show ∀ j : Nat, j < k → zs.getD j 0 = takeAt xs (ps.take 0) j from fun j hj => by rw [HA.out j hj, List.take_zero, takeAt_nil])
      clear HA hlt
      go_wp2
      go_loopw [8, 23] (fun _ i wr => ∃ q : Nat, ∃ zs : List Int, q ≤ m ∧ i = .int .i64 q ∧ zs.length = k ∧ wr.ownsRow w.heap.size 3 1 (.slice (some ⟨w.heap.size, 0, none⟩) k k) k (ivals zs) ∧ Below w.heap.size w wr ∧ ∀ j : Nat, j < k → zs.getD j 0 = takeAt xs (ps.take q) j) (fun _ i _ => m - (intOf i).toNat)
      case atStart => exact ⟨0, zs, by omega, rfl, HZ.out, hor, hBr, hZ0.out⟩
      case round =>
        clear hor hBr hZ0 HZ
        obtain ⟨q, zs, hq, rfl, hzl, hor, hBr, hall⟩ := hrel
        have HZ := Lib.hid hzl
        have HA := Lib.hid hall
        clear hzl hall
        by_cases hlt : q < m
        · obtain ⟨b1, o1, rfl, h1⟩ := (hp.below hBr).at_ q hlt
          have HQ : Hid (q < ps.length) := by show q < ps.length; rw [HP.out]; exact hlt
          obtain ⟨p, hpv⟩ : ∃ p, ps.getD q 0 = p := ⟨_, rfl⟩
          rw [hpv] at h1
          have HPV := Lib.hid hpv
          clear hpv
          by_cases hin : 0 ≤ p ∧ p < k
          · obtain ⟨j, rfl⟩ := Int.eq_ofNat_of_zero_le hin.1
            have hjk : j < k := by omega
            have hjx : j < xs.length := by rw [HL.out]; exact hjk
            obtain ⟨b2, rfl, h2⟩ := own_cell (own_below hx hBr) j (ptrV xs[j]) (by rw [List.getElem?_map, List.getElem?_eq_getElem hjx]; rfl)
            rw [Nat.zero_add] at h2
            have hxj := List.getElem?_eq_getElem hjx
            generalize xs[j] = x at h2 hxj
            have i0 : (0 : Int) ≤ (j : Int) := by omega
            have i1 : (j : Int) < (k : Int) := by omega
            rcases x with _ | ⟨g, s, a⟩
            · simp only [ptrV, ptA] at h2
              have HN := Lib.hid (show ∀ i : Nat, i < k → zs.getD i 0 = takeAt xs (ps.take (q + 1)) i from fun i hi => by
                rw [takeAt_skip HQ i ?_]
                · exact HA.out i hi
                · by_cases e : i = j
                  · subst e
                    refine .inr fun g s a e => ?_
                    rw [hxj] at e
                    simp at e
                  · refine .inl ?_
                    rw [HPV.out]
                    omega)
              clear hxj hin
              go_wp2
              go_roundw
              case rel => exact ⟨q + 1, zs, by omega, by go_num, HZ.out, hor, hBr, HN.out⟩
              case measure => simp [intOf]; omega
            · simp only [ptrV, ptA] at h2
              have hk2 := ((hc.below (B := B2) (by exact (hBr : Below w.heap.size w wr))) j g s a hxj).1
              have hcc : wr.cell? ⟨w.heap.size, j, none⟩ = some (.int .i64 (zs.getD j 0)) := (hor.cellAt j (by omega)).trans (ivals_at zs j (by rw [HZ.out]; exact hjk))
              have hf := hor.frozenAt j
              have hst := hor.stored j (.int .i64 s)
              rw [ivals_set] at hst
              have hB2 : Below w.heap.size w (wr.setCell ⟨w.heap.size, j, none⟩ (.int .i64 s)) := hBr.setCell (Nat.le_refl _) _
              have HZ2 := Lib.hid (show (zs.set j s).length = k by simpa using HZ.out)
              have HN := Lib.hid (show ∀ i : Nat, i < k → (zs.set j s).getD i 0 = takeAt xs (ps.take (q + 1)) i from fun i hi => by
                by_cases e : i = j
                · subst e
                  rw [takeAt_hit HQ i g s a hxj HPV.out.symm, List.getD_eq_getElem?_getD, List.getElem?_set_self (by rw [HZ.out]; exact hi)]
                  rfl
                · rw [takeAt_skip HQ i (.inl (by rw [HPV.out]; omega)), List.getD_eq_getElem?_getD, List.getElem?_set_ne (by omega), ← List.getD_eq_getElem?_getD]
                  exact HA.out i hi)
              clear hxj hin
              go_wp2_with fail
              refine (now_any g s a _ hk2).mono ?_
              rintro e w5 ⟨rfl, rfl⟩
              go_wp2
              go_roundw
              case rel => exact ⟨q + 1, _, by omega, by go_num, HZ2.out, hst.1, hB2, HN.out⟩
              case measure => simp [intOf]; omega
          · have HN := Lib.hid (show ∀ i : Nat, i < k → zs.getD i 0 = takeAt xs (ps.take (q + 1)) i from fun i hi => by
              rw [takeAt_skip HQ i (.inl (by rw [HPV.out]; omega))]
              exact HA.out i hi)
            have hin' : p < 0 ∨ (k : Int) ≤ p := by omega
            clear hin
            rcases hin' with hin | hin
            · go_wp2
              go_roundw
              case rel => exact ⟨q + 1, zs, by omega, by go_num, HZ.out, hor, hBr, HN.out⟩
              case measure => simp [intOf]; omega
            · have hp0 : 0 ≤ p := by omega
              go_wp2
              go_roundw
              case rel => exact ⟨q + 1, zs, by omega, by go_num, HZ.out, hor, hBr, HN.out⟩
              case measure => simp [intOf]; omega
        · obtain rfl : q = m := by omega
          have hzs : zs = takeL xs ps := takeL_eq xs ps zs (HZ.out.trans HL.out.symm) (fun j hj => by
            have := HA.out j (by rw [← HL.out]; exact hj)
            rw [← HP.out, List.take_length] at this
            exact this)
          go_wp2
          go_ret
          exact ⟨_, _, rfl, hzs ▸ hor, hBr⟩
end Go.Proofs.Ytackbdcpbkohoaa
