/- grown, apart. -/
import Derived.Test.YtodaplkijdjbpaaMark8
namespace Go.Proofs.Ytodaplkijdjbpaa
open Go.RowKit
set_option linter.unusedVariables false
set_option linter.unusedSimpArgs false
/-- A list of rows that lie apart. -/
structure Rows8 (w : World) (B g : Nat) (rs : List Rw) : Prop where
  blk : Blk w g (rs.map Rw.val).toArray 30
  sep : Sep w B rs
section
variable {w w1 w2 : World} {B g k n c i : Nat} {rs zs : List Rw} {A : Option Addr} {xs : List UInt8}
theorem Rows8.cell (h : Rows8 w B g zs) {r : Rw} (hk : zs[k]? = some r) : w.cell? ⟨g, k, none⟩ = some (.slice r.A r.n r.c) := by
  rw [h.blk.cell]
  simp [hk, Rw.val]
theorem Rows8.below (h : Rows8 w B g zs) (hb : Below w.heap.size w w1) : Rows8 w1 B g zs := ⟨h.blk.keep hb, h.sep.below hb⟩
theorem Rows8.chg {F : Nat → Prop} (h : Rows8 w B g zs) (hc : Chg F w w1) (hg : ¬ F g) (hF : ∀ r ∈ zs, ∀ q, blkO r.A = some q → ¬ F q) : Rows8 w1 B g zs := ⟨h.blk.chg hc hg, h.sep.chg hc hF⟩
theorem Rows8.own (h : Rows8 w B g zs) (hk : zs[k]? = some ⟨A, n, c, xs⟩) : w.ownsRow B 5 1 (.slice A n c) n (bvals xs) := h.sep.at_ k hk
theorem Rows8.ne (h : Rows8 w B g zs) (hk : zs[k]? = some ⟨A, n, c, xs⟩) : ∀ q, blkO A = some q → q ≠ g := fun q e e2 => by
  subst e2
  exact own_not_blk7 (h.own hk) h.blk (by decide) (by rw [ownBlock_slice]; exact e)
theorem bvals_set8 (zs : List UInt8) (k : Nat) (y : UInt8) : (bvals zs).set k (Value.int .u8 ((y.toNat : Nat) : Int)) = bvals (zs.set k y) := by
  rw [bvals, bvals, List.map_set]
/-- A byte of a row is written. -/
theorem Rows8.write (h : Rows8 w B g zs) (hk : zs[k]? = some ⟨A, n, c, xs⟩) (hi : i < n) (y : UInt8) :
    ∃ b, A = some ⟨b, 0, none⟩ ∧ (∃ x : Int, w.cell? ⟨b, i, none⟩ = some (.int .u8 x)) ∧ w.frozen? ⟨b, i, none⟩ = false ∧ n ≤ c ∧ Rows8 (w.setCell ⟨b, i, none⟩ (.int .u8 ((y.toNat : Nat) : Int))) B g (zs.set k ⟨A, n, c, xs.set i y⟩) ∧ Chg (fun q => blkO A = some q) w (w.setCell ⟨b, i, none⟩ (.int .u8 ((y.toNat : Nat) : Int))) := by
  have ho := h.own hk
  have hl : xs.length = n := by have := ho.1; rwa [bvals_length, Nat.mul_one] at this
  have hnc : n ≤ c := own_cap8 ho
  have hne := h.ne hk
  rcases ho.2 with ⟨_, h0⟩ | ⟨b, cap, cur, hv, -⟩
  · omega
  · injection hv with e1 e2 e3
    subst e1
    have hcell : w.cell? ⟨b, i, none⟩ = some (.int .u8 (((xs.getD i 0).toNat : Nat) : Int)) := (ho.cellAt i (by omega)).trans (bvals_at _ _ (by omega))
    have hst := (ho.stored i (.int .u8 ((y.toNat : Nat) : Int))).1
    rw [bvals_set8] at hst
    have hC : Chg (fun q => blkO (some ⟨b, 0, none⟩) = some q) w (w.setCell ⟨b, i, none⟩ (.int .u8 ((y.toNat : Nat) : Int))) := Chg.set (F := fun q => blkO (some ⟨b, 0, none⟩) = some q) (Chg.refl _ _) (.inl rfl) _ _
    refine ⟨b, rfl, ⟨_, hcell⟩, ho.frozenAt i, hnc, ⟨?_, h.sep.upd k hk hC hst (.inl rfl)⟩, hC⟩
    have hb := h.blk.chg hC (fun e => hne g e rfl)
    have e : ((zs.set k ⟨some ⟨b, 0, none⟩, n, c, xs.set i y⟩).map Rw.val) = zs.map Rw.val := by
      rw [List.map_set]
      refine List.ext_getElem? fun j => ?_
      by_cases ej : j = k
      · subst ej
        have hlt := (List.getElem?_eq_some_iff.1 hk).1
        rw [List.getElem?_set_self (by simpa using hlt), List.getElem?_map, hk]
        rfl
      · rw [List.getElem?_set_ne (Ne.symm ej)]
    rw [e]
    exact hb
/-- A byte is put behind a row. -/
theorem Rows8.push (h : Rows8 w B g zs) (hk : zs[k]? = some ⟨A, n, c, xs⟩) (hb : Below w.heap.size w w1) (hg : w1.grownBy w2 (Value.ownBlock (.slice A n c))) {A' : Option Addr} {c' : Nat} {y : UInt8} (ho : w2.ownsRow B 5 1 (.slice A' (n + 1) c') (n + 1) (bvals (xs ++ [y])))
    (hm : Value.ownBlock (.slice A' (n + 1) c') = Value.ownBlock (.slice A n c) ∨ ∃ b, Value.ownBlock (.slice A' (n + 1) c') = some b ∧ w1.heap.size ≤ b) :
    Rows8 (w2.setCell ⟨g, k, none⟩ (.slice A' (n + 1) c')) B g (zs.set k ⟨A', n + 1, c', xs ++ [y]⟩) ∧ Chg (fun q => q = g ∨ blkO A = some q) w (w2.setCell ⟨g, k, none⟩ (.slice A' (n + 1) c')) ∧ (∀ j, w2.frozen? ⟨g, j, none⟩ = false) ∧ w2.cell? ⟨g, k, none⟩ = some (.slice A n c) ∧ (blkO A' = blkO A ∨ ∃ b, blkO A' = some b ∧ w.heap.size ≤ b) := by
  rw [ownBlock_slice, ownBlock_slice] at hm
  rw [ownBlock_slice] at hg
  have hm' : blkO A' = blkO A ∨ ∃ b, blkO A' = some b ∧ w.heap.size ≤ b := hm.imp id (fun ⟨b, e, hb2⟩ => ⟨b, e, Nat.le_trans hb.size hb2⟩)
  have hC : Chg (fun q => blkO A = some q) w w2 := Chg.after hb (chg_grown hg)
  have hs := h.sep.upd k hk hC ho hm'
  have hbk := h.blk.chg hC (fun e => h.ne hk g e rfl)
  have hS := chg_set w2 g k (.slice A' (n + 1) c')
  have hlt := (List.getElem?_eq_some_iff.1 hk).1
  refine ⟨⟨?_, hs.chg hS (fun r hr q e e2 => ?_)⟩, (hC.mono (fun q e => .inr e) : Chg (fun q => q = g ∨ blkO A = some q) w w2).trans hS (fun q e => .inl (.inl e)), hbk.frozen, ?_, hm'⟩
  · have := hbk.set k (.slice A' (n + 1) c')
    have e : ((zs.set k ⟨A', n + 1, c', xs ++ [y]⟩).map Rw.val).toArray = (zs.map Rw.val).toArray.setIfInBounds k (.slice A' (n + 1) c') := by
      rw [List.map_set]
      simp [Rw.val]
    rw [e]
    exact this
  · subst e2
    exact own_not_blk7 (hs.own r hr) hbk (by decide) (by rw [ownBlock_slice]; exact e)
  · rw [hbk.cell]
    simp [hk, Rw.val]
end
def mk1 (k : Nat) : UInt8 := UInt8.ofNat (2 * k + 1)
def mk2 (k : Nat) : UInt8 := UInt8.ofNat (2 * k + 2)
theorem mk1_val (k : Nat) (h : k < 16) : (((mk1 k).toNat : Nat) : Int) = 2 * (k : Int) + 1 := by
  unfold mk1
  rw [UInt8.toNat_ofNat']
  omega
theorem mk2_val (k : Nat) (h : k < 16) : (((mk2 k).toNat : Nat) : Int) = 2 * (k : Int) + 2 := by
  unfold mk2
  rw [UInt8.toNat_ofNat']
  omega
/-- The first k rows are filled. -/
def M1 (rs zs : List Rw) (k : Nat) : Prop := zs.length = rs.length ∧ ∀ j r, rs[j]? = some r → ∃ bs, zs[j]? = some ⟨r.A, r.n, r.c, bs⟩ ∧ (j < k → bs = List.replicate r.n (mk1 j))
/-- Each row is longer by so many. -/
def M2 (F : Nat → Prop) (rs ys : List Rw) (t : Nat → Nat) : Prop := ys.length = rs.length ∧ ∀ j r, rs[j]? = some r → ∃ A c, ys[j]? = some (⟨A, r.n + t j, c, List.replicate r.n (mk1 j) ++ List.replicate (t j) (mk2 j)⟩ : Rw) ∧ ∀ q, blkO A = some q → F q
theorem M1.set {rs zs : List Rw} {k : Nat} {A : Option Addr} {n c : Nat} {rbs xs : List UInt8} (h : M1 rs zs k) (hr : rs[k]? = some ⟨A, n, c, rbs⟩) : M1 rs (zs.set k ⟨A, n, c, xs⟩) k := by
  refine ⟨by rw [List.length_set]; exact h.1, fun j r hj => ?_⟩
  by_cases e : j = k
  · subst e
    rw [hr] at hj
    injection hj with hj
    subst hj
    exact ⟨xs, List.getElem?_set_self (by rw [h.1]; exact (List.getElem?_eq_some_iff.1 hr).1), fun h => absurd h (by omega)⟩
  · obtain ⟨bs, h1, h2⟩ := h.2 j r hj
    exact ⟨bs, by rw [List.getElem?_set_ne (Ne.symm e)]; exact h1, h2⟩
theorem M1.next {rs zs : List Rw} {k : Nat} {A : Option Addr} {n c : Nat} {rbs : List UInt8} (h : M1 rs zs k) (hr : rs[k]? = some ⟨A, n, c, rbs⟩) (hz : zs[k]? = some ⟨A, n, c, List.replicate n (mk1 k)⟩) : M1 rs zs (k + 1) := by
  refine ⟨h.1, fun j r hj => ?_⟩
  by_cases e : j = k
  · subst e
    rw [hr] at hj
    injection hj with hj
    subst hj
    exact ⟨_, hz, fun _ => rfl⟩
  · obtain ⟨bs, h1, h2⟩ := h.2 j r hj
    exact ⟨bs, h1, fun h => h2 (by omega)⟩
theorem set_marks8 {zs : List UInt8} {k n : Nat} {y : UInt8} (hl : zs.length = n) (hk : k < n) (h : ∀ j, j < k → zs.getD j 0 = y) : ∀ j, j < k + 1 → (zs.set k y).getD j 0 = y := by
  intro j hj
  by_cases e : j = k
  · subst e
    rw [List.getD_eq_getElem?_getD, List.getElem?_set_self (by omega)]
    rfl
  · rw [List.getD_eq_getElem?_getD, List.getElem?_set_ne (by omega), ← List.getD_eq_getElem?_getD]
    exact h j (by omega)
theorem all_marks8 {zs : List UInt8} {n : Nat} {y : UInt8} (hl : zs.length = n) (h : ∀ j, j < n → zs.getD j 0 = y) : zs = List.replicate n y := by
  refine List.ext_getElem (by simp [hl]) fun i h1 h2 => ?_
  have := h i (by omega)
  rw [List.getD_eq_getElem?_getD, List.getElem?_eq_getElem h1] at this
  simpa using this
theorem Rows8.len {w : World} {B g k n c : Nat} {zs : List Rw} {A : Option Addr} {xs : List UInt8} (h : Rows8 w B g zs) (hk : zs[k]? = some ⟨A, n, c, xs⟩) : xs.length = n := by
  have := (h.own hk).1
  rwa [bvals_length, Nat.mul_one] at this
theorem M2.start {F : Nat → Prop} {rs zs : List Rw} {m : Nat} (hm : rs.length = m) (h : M1 rs zs m) (hF : ∀ r ∈ rs, ∀ q, blkO r.A = some q → F q) : M2 F rs zs (fun j => if j < 0 then 70 else 0) := by
  refine ⟨h.1, fun j r hj => ?_⟩
  obtain ⟨bs, h1, h2⟩ := h.2 j r hj
  have hlt := (List.getElem?_eq_some_iff.1 hj).1
  exact ⟨r.A, r.c, by rw [h1, h2 (by omega)]; simp, hF r (List.mem_of_getElem? hj)⟩
theorem M2.ext {F : Nat → Prop} {rs ys : List Rw} {t u : Nat → Nat} (h : M2 F rs ys t) (he : ∀ j, j < rs.length → t j = u j) : M2 F rs ys u := by
  refine ⟨h.1, fun j r hj => ?_⟩
  obtain ⟨A, c, h1, h2⟩ := h.2 j r hj
  have := he j (List.getElem?_eq_some_iff.1 hj).1
  exact ⟨A, c, by rw [← this]; exact h1, h2⟩
/-- What the row k is. -/
theorem M2.push {F : Nat → Prop} {rs ys : List Rw} {t : Nat → Nat} {k : Nat} (h : M2 F rs ys t) {r : Rw} (hr : rs[k]? = some r) {A : Option Addr} {c : Nat} (hA : ∀ q, blkO A = some q → F q) :
    M2 F rs (ys.set k ⟨A, r.n + t k + 1, c, (List.replicate r.n (mk1 k) ++ List.replicate (t k) (mk2 k)) ++ [mk2 k]⟩) (upd t k (t k + 1)) := by
  refine ⟨by rw [List.length_set]; exact h.1, fun j r' hj => ?_⟩
  by_cases e : j = k
  · subst e
    rw [hr] at hj
    injection hj with hj
    subst hj
    refine ⟨A, c, ?_, hA⟩
    rw [List.getElem?_set_self (by rw [h.1]; exact (List.getElem?_eq_some_iff.1 hr).1), upd_same, List.replicate_succ', List.append_assoc]
    rfl
  · obtain ⟨A', c', h1, h2⟩ := h.2 j r' hj
    exact ⟨A', c', by rw [List.getElem?_set_ne (Ne.symm e), upd_other _ _ _ _ e]; exact h1, h2⟩
/-- What grown comes to. -/
def GrTo (B g m c : Nat) (rs : List Rw) (w : World) (e : Ending) (w' : World) : Prop :=
  ∃ ys, e = .returned (.slice (some ⟨g, 0, none⟩) m c) ∧ Rows8 w' B g ys ∧ M2 (fun q => (∃ r ∈ rs, blkO r.A = some q) ∨ w.heap.size ≤ q) rs ys (fun _ => 70) ∧ Chg (fun q => q = g ∨ ∃ r ∈ rs, blkO r.A = some q) w w'
set_option maxHeartbeats 1600000 in
theorem grown_any {m B g c : Nat} {rs : List Rw} {w : World} (h : Rows8 w B g rs) (hm : rs.length = m) (hm16 : m ≤ 16) (hB : B ≤ w.heap.size) (hn : ∀ r ∈ rs, r.n ≤ 1099511627776) :
    Calls Try.prog 30 #[.slice (some ⟨g, 0, none⟩) m c] w (GrTo B g m c rs w) := by
  have HM := Lib.hid hm
  have HN := Lib.hid hn
  have HH := Lib.hid h
  clear h hn hm
  go_enter Try.func30, Try.ntmps30
  go_wp2_with fail
  go_loopw [9] (fun iv wr => ∃ k : Nat, ∃ zs, k ≤ m ∧ iv = .int .i64 k ∧ Hid (Rows8 wr B g zs) ∧ Hid (M1 rs zs k) ∧ Hid (Chg (fun q => q = g ∨ ∃ r ∈ rs, blkO r.A = some q) w wr)) (fun iv _ => m - (intOf iv).toNat)
  case atStart => exact ⟨0, rs, Nat.zero_le _, rfl, HH, Lib.hid ⟨rfl, fun j r hj => ⟨r.bs, hj, fun h => absurd h (by omega)⟩⟩, Lib.hid (Chg.refl _ _)⟩
  case round =>
    clear HH
    obtain ⟨k, zs, hk, rfl, HR, HM1, HC⟩ := hrel
    by_cases hlt : k < m
    · obtain ⟨r, hr⟩ : ∃ r, rs[k]? = some r := ⟨_, List.getElem?_eq_getElem (by rw [HM.out]; exact hlt)⟩
      obtain ⟨bs0, hz, -⟩ := HM1.out.2 k r hr
      have hmem := List.mem_of_getElem? hr
      have hrn := HN.out r hmem
      have hcl := HR.out.cell hz
      simp only at hcl
      obtain ⟨A, n, cc, rbs⟩ := r
      simp only at hz hcl hrn
      have HRR := Lib.hid hr
      have j0 : (0 : Int) ≤ (k : Int) := by omega
      have j1 : (k : Int) < (m : Int) := by omega
      have hmk := mk1_val k (by omega)
      have HMK := Lib.hid hmk
      have hwr : IntKind.u8.wrap (2 * (k : Int) + 1) = 2 * (k : Int) + 1 := by simp [IntKind.wrap, IntKind.signed, IntKind.bits]; omega
      have hwr2 : (2 * (k : Int) + 1) % 256 = 2 * (k : Int) + 1 := by omega
      clear hr hmem hmk
      go_wp2_with fail
      clear hcl
      go_loopw [16] (fun iv wx => ∃ i : Nat, ∃ zs xs, i ≤ n ∧ iv = .int .i64 i ∧ Hid (Rows8 wx B g zs) ∧ Hid (M1 rs zs k) ∧ Hid (zs[k]? = some ⟨A, n, cc, xs⟩) ∧ Hid (∀ j, j < i → xs.getD j 0 = mk1 k) ∧ Hid (Chg (fun q => q = g ∨ ∃ r ∈ rs, blkO r.A = some q) w wx)) (fun iv _ => n - (intOf iv).toNat)
      case atStart => exact ⟨0, zs, bs0, Nat.zero_le _, rfl, HR, HM1, Lib.hid hz, Lib.hid (fun j hj => by omega), HC⟩
      case round =>
        clear HR HM1 hz HC
        obtain ⟨i, zs, xs, hi, rfl, HR, HM1, HZ, HJ, HC⟩ := hrel
        by_cases hlt2 : i < n
        · obtain ⟨b, rfl, ⟨x, hcx⟩, hfx, hnc, hW, hCW⟩ := HR.out.write HZ.out hlt2 (mk1 k)
          have hxl := HR.out.len HZ.out
          have hM := HM1.out.set (xs := xs.set i (mk1 k)) HRR.out
          have hZ2 : (zs.set k ⟨some ⟨b, 0, none⟩, n, cc, xs.set i (mk1 k)⟩)[k]? = some ⟨some ⟨b, 0, none⟩, n, cc, xs.set i (mk1 k)⟩ := List.getElem?_set_self (List.getElem?_eq_some_iff.1 HZ.out).1
          have hJ2 := set_marks8 hxl hlt2 HJ.out
          have hC2 := HC.out.trans hCW (fun q e => .inl (.inr ⟨_, List.mem_of_getElem? HRR.out, e⟩))
          rw [HMK.out] at hW hC2
          have HW := Lib.hid (And.intro hW (And.intro hM (And.intro hZ2 (And.intro hJ2 hC2))))
          have i0 : (0 : Int) ≤ (i : Int) := by omega
          have i1 : (i : Int) < (n : Int) := by omega
          clear hW hCW hM hZ2 hJ2 hC2 hxl HR HM1 HZ HJ HC
          go_wp2_with fail
          go_roundw
          case rel => exact ⟨i + 1, _, _, hlt2, by go_num, Lib.hid HW.out.1, Lib.hid HW.out.2.1, Lib.hid HW.out.2.2.1, Lib.hid HW.out.2.2.2.1, Lib.hid HW.out.2.2.2.2⟩
          case measure => simp [intOf]; omega
        · obtain rfl : i = n := by omega
          have hxs := all_marks8 (HR.out.len HZ.out) HJ.out
          have hz3 := HZ.out
          rw [hxs] at hz3
          have HM3 := Lib.hid (HM1.out.next HRR.out hz3)
          clear hxs hz3
          go_wp2_with fail
          go_roundw
          case rel => exact ⟨k + 1, zs, hlt, by go_num, HR, HM3, HC⟩
          case measure => simp [intOf]; omega
    · obtain rfl : k = m := by omega
      have hM2 := M2.start HM.out HM1.out (F := fun q => (∃ r ∈ rs, blkO r.A = some q) ∨ w.heap.size ≤ q) (fun r hr q e => .inl ⟨r, hr, e⟩)
      have HM2 := Lib.hid hM2
      clear hM2 HM1 hlt
      go_wp2_with fail
      go_loopw [30] (fun iv wx => ∃ j : Nat, ∃ ys, j ≤ k ∧ iv = .int .i64 j ∧ Hid (Rows8 wx B g ys) ∧ Hid (M2 (fun q => (∃ r ∈ rs, blkO r.A = some q) ∨ w.heap.size ≤ q) rs ys (fun x => if x < j then 70 else 0)) ∧ Hid (Chg (fun q => q = g ∨ ∃ r ∈ rs, blkO r.A = some q) w wx)) (fun iv _ => k - (intOf iv).toNat)
      case atStart => exact ⟨0, zs, Nat.zero_le _, rfl, HR, HM2, HC⟩
      case round =>
        clear HR HM2 HC
        obtain ⟨j, ys, hj, rfl, HR, HM2, HC⟩ := hrel
        by_cases hlt : j < k
        · obtain ⟨r, hr⟩ : ∃ r, rs[j]? = some r := ⟨_, List.getElem?_eq_getElem (by rw [HM.out]; exact hlt)⟩
          have hrn := HN.out r (List.mem_of_getElem? hr)
          have HRR := Lib.hid hr
          have HS := Lib.hid (HM2.out.ext (u := fun x => if x < j then 70 else if x = j then 0 else 0) (fun x hx => by simp))
          have j0 : (0 : Int) ≤ (j : Int) := by omega
          have j1 : (j : Int) < (k : Int) := by omega
          have hmk := mk2_val j (by omega)
          have HMK := Lib.hid hmk
          have hwr : IntKind.u8.wrap (2 * (j : Int) + 2) = 2 * (j : Int) + 2 := by simp [IntKind.wrap, IntKind.signed, IntKind.bits]; omega
          have hwr2 : (2 * (j : Int) + 2) % 256 = 2 * (j : Int) + 2 := by omega
          clear hr hmk HM2
          go_wp2_with fail
          go_loopw [33] (fun iv wx => ∃ i : Nat, ∃ ys, i ≤ 70 ∧ iv = .int .i64 i ∧ Hid (Rows8 wx B g ys) ∧ Hid (M2 (fun q => (∃ r ∈ rs, blkO r.A = some q) ∨ w.heap.size ≤ q) rs ys (fun x => if x < j then 70 else if x = j then i else 0)) ∧ Hid (Chg (fun q => q = g ∨ ∃ r ∈ rs, blkO r.A = some q) w wx)) (fun iv _ => 70 - (intOf iv).toNat)
          case atStart => exact ⟨0, ys, by omega, rfl, HR, HS, HC⟩
          case round =>
            clear HR HS HC
            obtain ⟨i, ys, hi, rfl, HR, HS, HC⟩ := hrel
            by_cases hlt2 : i < 70
            · obtain ⟨A, cc, hy, hAF⟩ := HS.out.2 j r HRR.out
              simp only [Nat.lt_irrefl, if_false, if_true] at hy
              have hcl := HR.out.cell hy
              simp only at hcl
              obtain ⟨n, hn⟩ : ∃ n, r.n = n := ⟨_, rfl⟩
              rw [hn] at hy hcl hrn
              have HNR := Lib.hid hn
              have hwx := HC.out.size
              have hBa := below_alloc wr (.cells #[.int .u8 (2 * (j : Int) + 2)] 5)
              have hora := own_below (HR.out.own hy) hBa
              have hRl := rdc_block (heap_alloc_new wr (.cells #[.int .u8 (2 * (j : Int) + 2)] 5))
              have hsB : B ≤ (wr.alloc (.cells #[.int .u8 (2 * (j : Int) + 2)] 5)).heap.size := by have := hBa.size; omega
              have HY := Lib.hid (And.intro hy hAF)
              have HBA := Lib.hid hBa
              clear hy hAF hn hBa
              go_wp2_with (at_builtin; refine wpl_append _ rfl _ _ 30 rfl B 5 _ 1 1 Try.underlying30 info_byte7 rfl (by decide) (.slice A (n + i) cc) (n + i) _ rfl hora _ 1 1 [.int .u8 (2 * (j : Int) + 2)] rfl hRl (by simp [Value.oneCell']) (by decide) (by decide) (by omega) hsB ?_; intro A3 c3 wa ho3 hg3 hne3 hnn3; rw [show bvals (List.replicate n (mk1 j) ++ List.replicate i (mk2 j)) ++ [Value.int .u8 (2 * (j : Int) + 2)] = bvals ((List.replicate n (mk1 j) ++ List.replicate i (mk2 j)) ++ [mk2 j]) by rw [← HMK.out]; exact (bvals_append _ [mk2 j]).symm] at ho3; obtain ⟨p1, p2, p3, p4, p5⟩ := HR.out.push HY.out.1 HBA.out hg3 ho3 hne3; have HP := Lib.hid (And.intro p1 (And.intro p2 p5)); clear p1 p2 p5 ho3 hg3 hne3 hnn3)
              have hM := HS.out.push HRR.out (A := A3) (c := c3) (fun q e => by
                rcases HP.out.2.2 with h1 | ⟨b, h1, h2⟩
                · rw [h1] at e; exact HY.out.2 q e
                · rw [h1] at e; injection e with e; subst e; exact .inr (by omega))
              simp only [Nat.lt_irrefl, if_false, if_true] at hM
              rw [HNR.out] at hM
              have hM2 := hM.ext (u := fun x => if x < j then 70 else if x = j then i + 1 else 0) (fun x hx => by
                by_cases e2 : x = j
                · subst e2; rw [upd_same]; simp
                · rw [upd_other _ _ _ _ e2]; simp [e2])
              have hC2 := HC.out.trans HP.out.2.1 (fun q e => by
                rcases e with e | e
                · exact .inl (.inl e)
                · exact (HY.out.2 q e).imp (fun h => .inr h) id)
              have HZ := Lib.hid (And.intro HP.out.1 (And.intro hM2 hC2))
              clear hM hM2 hC2 hora hRl hsB p3 p4 HY HR HS HC hcl
              go_wp2_with fail
              go_roundw
              case rel => exact ⟨i + 1, _, by omega, by go_num, Lib.hid HZ.out.1, Lib.hid HZ.out.2.1, Lib.hid HZ.out.2.2⟩
              case measure => simp [intOf]; omega
            · obtain rfl : i = 70 := by omega
              have HS2 := Lib.hid (HS.out.ext (u := fun x => if x < j + 1 then 70 else 0) (fun x hx => by
                by_cases e1 : x < j
                · simp [e1, show x < j + 1 by omega]
                · by_cases e2 : x = j
                  · simp [e2]
                  · simp [e1, e2, show ¬ x < j + 1 by omega]))
              clear HS
              go_wp2_with fail
              go_roundw
              case rel => exact ⟨j + 1, ys, hlt, by go_num, HR, HS2, HC⟩
              case measure => simp [intOf]; omega
        · obtain rfl : j = k := by omega
          have hfin := HM2.out.ext (u := fun _ => 70) (fun x hx => by rw [HM.out] at hx; simp [hx])
          have HF := Lib.hid hfin
          clear hfin HM2
          go_wp2_with fail
          go_ret
          exact ⟨ys, rfl, HR.out, HF.out, HC.out⟩
theorem Rows8.draws {w : World} {B g : Nat} {zs : List Rw} (h : Rows8 w B g zs) (q : Nat) : Rows8 (w.drewN q) B g zs := h.below (below_drew7 w q)
set_option maxHeartbeats 1600000 in
theorem apart_any {m B g c lb d : Nat} {rs ys : List Rw} {w : World} {F : Nat → Prop} (h : Rows8 w B g ys) (hm : rs.length = m) (hm16 : m ≤ 16) (hM : M2 F rs ys (fun _ => 70)) (hn : ∀ r ∈ rs, r.n ≤ 1099511627776) (hL : ∀ j r, rs[j]? = some r → w.cell? ⟨lb, j, none⟩ = some (.int .i64 (r.n : Nat))) :
    Calls Try.prog 29 #[.slice (some ⟨g, 0, none⟩) m c, .slice (some ⟨lb, 0, none⟩) m d] w fun e w' => e = .returned (.bool true) ∧ ∃ q, w' = w.drewN q := by
  have HM := Lib.hid hm
  have HN := Lib.hid hn
  have HH := Lib.hid h
  have HMM := Lib.hid hM
  have HL := Lib.hid hL
  clear h hn hm hM hL
  go_enter Try.func29, Try.ntmps29
  go_wp2_with fail
  go_loopw [9] (fun iv wr => ∃ k q : Nat, k ≤ m ∧ iv = .int .i64 k ∧ Hid (wr = w.drewN q)) (fun iv _ => m - (intOf iv).toNat)
  case atStart => exact ⟨0, 0, Nat.zero_le _, rfl, Lib.hid rfl⟩
  case round =>
    obtain ⟨k, q, hk, rfl, HW⟩ := hrel
    by_cases hlt : k < m
    · obtain ⟨r, hr⟩ : ∃ r, rs[k]? = some r := ⟨_, List.getElem?_eq_getElem (by rw [HM.out]; exact hlt)⟩
      have hrn := HN.out r (List.mem_of_getElem? hr)
      obtain ⟨A, cc, hy, -⟩ := HMM.out.2 k r hr
      simp only at hy
      have hl := HL.out k r hr
      obtain ⟨n, hnr⟩ : ∃ n, r.n = n := ⟨_, rfl⟩
      rw [hnr] at hy hl hrn
      have hH := HH.out.draws q
      rw [← HW.out] at hH
      have hcl := hH.cell hy
      simp only at hcl
      have hl2 : wr.cell? ⟨lb, k, none⟩ = some (.int .i64 (n : Nat)) := by rw [HW.out]; exact hl
      have hby := own_bytes' (hH.own hy) (by omega)
      have HMV := Lib.hid (marked_any A (n + 70) cc n 70 (mk1 k) (mk2 k) wr hby)
      have h1 := mk1_val k (by omega)
      have h2 := mk2_val k (by omega)
      rw [h1, h2] at HMV
      have hwr : IntKind.u8.wrap (2 * (k : Int) + 1) = 2 * (k : Int) + 1 := by simp [IntKind.wrap, IntKind.signed, IntKind.bits]; omega
      have hwr2 : (2 * (k : Int) + 1) % 256 = 2 * (k : Int) + 1 := by omega
      have hwr3 : IntKind.u8.wrap (2 * (k : Int) + 2) = 2 * (k : Int) + 2 := by simp [IntKind.wrap, IntKind.signed, IntKind.bits]; omega
      have hwr4 : (2 * (k : Int) + 2) % 256 = 2 * (k : Int) + 2 := by omega
      have j0 : (0 : Int) ≤ (k : Int) := by omega
      have j1 : (k : Int) < (m : Int) := by omega
      clear hr hy hl hH hby hnr h1 h2
      go_wp2_with fail
      refine HMV.out.mono ?_
      rintro e w2 ⟨rfl, q2, hq2⟩
      have HW2 : Hid (w2 = w.drewN (q + q2)) := Lib.hid (by rw [hq2, HW.out, World.drewN_drewN])
      clear hq2 HMV hcl hl2
      go_wp2_with fail
      go_roundw
      case rel => exact ⟨k + 1, q + q2, hlt, by go_num, HW2⟩
      case measure => simp [intOf]; omega
    · obtain rfl : k = m := by omega
      go_wp2_with fail
      go_ret
      exact ⟨rfl, q, HW.out⟩
end Go.Proofs.Ytodaplkijdjbpaa
