/- Package disk, walked: Read, Bounds, Done, Areas. -/
import Derived.Test.YtodaplkijdjbpaaFind
namespace Go.Proofs.Ytodaplkijdjbpaa
open Go.RowKit
set_option linter.unusedVariables false
set_option linter.unusedSimpArgs false
/-- What Read answers. -/
def Pd.read (P : Pd) (i at_ n : Int) : List UInt8 × Int :=
  if i < 0 ∨ (P.n : Int) ≤ i then ([], 81) else
  if n < 0 ∨ ((P.p i.toNat).bs.length : Int) < n ∨ at_ < (P.p i.toNat).base ∨ (P.p i.toNat).base + (P.p i.toNat).bs.length - n < at_ then ([], 70) else
  (((P.p i.toNat).bs.drop (at_ - (P.p i.toNat).base).toNat).take n.toNat, 0)
def RdTo (r : List UInt8 × Int) (w : World) (e : Ending) (w' : World) : Prop :=
  ∃ A c, e = .returned (.tuple #[.slice A r.1.length c, .int .i64 r.2]) ∧ w'.ownsRow w.heap.size 5 1 (.slice A r.1.length c) r.1.length (bvals r.1) ∧ Below w.heap.size w w'
/-- What Bounds answers. -/
def Pd.bounds (P : Pd) (i : Int) : Int × Int × Int × Int :=
  if i < 0 ∨ (P.n : Int) ≤ i then (0, 0, 0, 81) else ((P.p i.toNat).base, (P.p i.toNat).base + (P.p i.toNat).safe, (P.p i.toNat).base + (P.p i.toNat).bs.length, 0)
/-- What Done answers. -/
def Pd.dones (P : Pd) (i : Int) : Int := if i < 0 ∨ (P.n : Int) ≤ i then 0 else ((P.p i.toNat).done : Int)
section
variable {w : World} {G pb K : Nat} {ls : Nat → Loc} {P : Pd}
set_option maxHeartbeats 800000 in
theorem diskRead_any (h : DAt w G pb ls P K) (hK : K ≤ 4294967296) (i at_ n : Int) (h1 : -9223372036854775808 ≤ n) (h2 : n ≤ 9223372036854775807) :
    Calls Try.prog 28 #[.pointer (some ⟨G, 0, none⟩), .int .i64 i, .int .i64 at_, .int .i64 n] w (RdTo (P.read i at_ n) w) := by
  unfold Pd.read
  by_cases hi : i < 0 ∨ (P.n : Int) ≤ i
  · rw [if_pos hi]
    go_enter Try.func28, Try.ntmps28
    go_wp2_with fail
    refine (find_bad h i hi).mono ?_
    rintro e w1 ⟨rfl, rfl⟩
    go_wp2_with fail
    go_ret2
    exact ⟨none, 0, rfl, World.ownsRow_nil _ _ _ _, Below.refl _ _⟩
  · rw [if_neg hi]
    obtain ⟨j, rfl⟩ : ∃ j : Nat, i = j := ⟨i.toNat, by omega⟩
    have hj : j < P.n := by omega
    rw [Int.toNat_natCast]
    obtain ⟨cs, hb, hcs⟩ := h.ps
    have c0 : w.cell? ⟨pb, j * 5, none⟩ = _ := (hb.cell _).trans (hcs.ptr j hj)
    have HF := Lib.hid (find_ok h j hj)
    have HA := Lib.hid (h.ar j hj)
    have hll := (h.lim.a j hj)
    have l1 := hll.n
    have l2 := hll.e
    have l3 := hll.b0
    generalize P.p j = a at *
    generalize (ls j).g = g at *
    generalize (ls j).A = A at *
    generalize (ls j).c = c at *
    clear hcs hb h hll
    by_cases hr : n < 0 ∨ (a.bs.length : Int) < n ∨ at_ < a.base ∨ a.base + a.bs.length - n < at_
    · rw [if_pos hr]
      go_enter Try.func28, Try.ntmps28
      go_wp2_with fail
      refine HF.out.mono ?_
      rintro e w1 ⟨rfl, rfl⟩
      go_wp2_with fail
      refine (areaRead_no HA.out at_ n h1 h2 hr).mono ?_
      rintro e w2 ⟨rfl, hb2⟩
      go_wp2_with fail
      go_ret2
      exact ⟨none, 0, rfl, World.ownsRow_nil _ _ _ _, hb2⟩
    · rw [if_neg hr]
      obtain ⟨m, rfl⟩ : ∃ m : Nat, n = m := ⟨n.toNat, by omega⟩
      obtain ⟨k, hk⟩ : ∃ k : Nat, at_ = a.base + k := ⟨(at_ - a.base).toNat, by omega⟩
      subst hk
      have hkm : k + m ≤ a.bs.length := by omega
      rw [show (a.base + (k : Int) - a.base).toNat = k by omega, Int.toNat_natCast]
      have hlen : ((a.bs.drop k).take m).length = m := by rw [List.length_take, List.length_drop]; omega
      go_enter Try.func28, Try.ntmps28
      go_wp2_with fail
      refine HF.out.mono ?_
      rintro e w1 ⟨rfl, rfl⟩
      go_wp2_with fail
      refine (areaRead_any HA.out k m hkm).mono ?_
      rintro e w2 ⟨A', c', rfl, ho, hb2⟩
      go_wp2_with fail
      go_ret2
      exact ⟨A', c', by simp only [hlen]; rfl, by simp only [hlen]; exact ho, hb2⟩
theorem diskBounds_any (h : DAt w G pb ls P K) (i : Int) :
    Calls Try.prog 40 #[.pointer (some ⟨G, 0, none⟩), .int .i64 i] w fun e w' => e = .returned (.tuple #[.int .i64 (P.bounds i).1, .int .i64 (P.bounds i).2.1, .int .i64 (P.bounds i).2.2.1, .int .i64 (P.bounds i).2.2.2]) ∧ Below w.heap.size w w' := by
  unfold Pd.bounds
  by_cases hi : i < 0 ∨ (P.n : Int) ≤ i
  · rw [if_pos hi]
    go_enter Try.func40, Try.ntmps40
    go_wp2_with fail
    refine (find_bad h i hi).mono ?_
    rintro e w1 ⟨rfl, rfl⟩
    go_wp2_with fail
    refine bodyPost_ret (v := _) (by simp [results, Try.results40, go_sem]; rfl) rfl ?_
    exact ⟨rfl, Below.refl _ _⟩
  · rw [if_neg hi]
    obtain ⟨j, rfl⟩ : ∃ j : Nat, i = j := ⟨i.toNat, by omega⟩
    have hj : j < P.n := by omega
    rw [Int.toNat_natCast]
    obtain ⟨cs, hb, hcs⟩ := h.ps
    have c0 : w.cell? ⟨pb, j * 5, none⟩ = _ := (hb.cell _).trans (hcs.ptr j hj)
    have HF := Lib.hid (find_ok h j hj)
    have HA := Lib.hid (h.ar j hj)
    generalize P.p j = a at *
    generalize (ls j).g = g at *
    generalize (ls j).A = A at *
    generalize (ls j).c = c at *
    clear hcs hb h
    go_enter Try.func40, Try.ntmps40
    go_wp2_with fail
    refine HF.out.mono ?_
    rintro e w1 ⟨rfl, rfl⟩
    go_wp2_with fail
    refine (areaBounds_any HA.out).mono ?_
    rintro e w2 ⟨rfl, nn, rfl⟩
    go_wp2_with fail
    refine bodyPost_ret (v := _) (by simp [results, Try.results40, go_sem]; rfl) rfl ?_
    exact ⟨rfl, below_drew7 _ _⟩
theorem diskDone_any (h : DAt w G pb ls P K) (i : Int) :
    Calls Try.prog 36 #[.pointer (some ⟨G, 0, none⟩), .int .i64 i] w fun e w' => e = .returned (.int .i64 (P.dones i)) ∧ w = w' := by
  unfold Pd.dones
  by_cases hi : i < 0 ∨ (P.n : Int) ≤ i
  · rw [if_pos hi]
    go_enter Try.func36, Try.ntmps36
    go_wp2_with fail
    refine (find_bad h i hi).mono ?_
    rintro e w1 ⟨rfl, rfl⟩
    go_wp2_with fail
    go_ret
    exact ⟨rfl, rfl⟩
  · rw [if_neg hi]
    obtain ⟨j, rfl⟩ : ∃ j : Nat, i = j := ⟨i.toNat, by omega⟩
    have hj : j < P.n := by omega
    rw [Int.toNat_natCast]
    obtain ⟨cs, hb, hcs⟩ := h.ps
    have c0 : w.cell? ⟨pb, j * 5 + 4, none⟩ = _ := (hb.cell _).trans (hcs.dn j hj)
    have HF := Lib.hid (find_ok h j hj)
    generalize (P.p j).done = dn at *
    clear hcs hb h
    go_enter Try.func36, Try.ntmps36
    go_wp2_with fail
    refine HF.out.mono ?_
    rintro e w1 ⟨rfl, rfl⟩
    go_wp2_with fail
    go_ret
    exact ⟨rfl, rfl⟩
theorem diskAreas_any (h : DAt w G pb ls P K) :
    Calls Try.prog 41 #[.pointer (some ⟨G, 0, none⟩)] w fun e w' => e = .returned (.int .i64 (P.n : Nat)) ∧ w = w' := by
  have c0 : w.cell? ⟨G, 0, none⟩ = _ := h.hd.cell 0
  simp at c0
  go_enter Try.func41, Try.ntmps41
  go_wp2
  go_ret
  exact ⟨rfl, rfl⟩
end
theorem diskRead_nil (i a b : Value) (w : World) : Calls Try.prog 28 #[.pointer none, i, a, b] w fun e w' => e = .returned (.tuple #[.slice none 0 0, .int .i64 1]) ∧ w = w' := by
  go_enter Try.func28, Try.ntmps28
  go_wp2_with fail
  refine (find_nil _ _).mono ?_
  rintro e w1 ⟨rfl, rfl⟩
  go_wp2_with fail
  go_ret2
  exact ⟨rfl, rfl⟩
theorem diskBounds_nil (i : Value) (w : World) : Calls Try.prog 40 #[.pointer none, i] w fun e w' => e = .returned (.tuple #[.int .i64 0, .int .i64 0, .int .i64 0, .int .i64 1]) ∧ w = w' := by
  go_enter Try.func40, Try.ntmps40
  go_wp2_with fail
  refine (find_nil _ _).mono ?_
  rintro e w1 ⟨rfl, rfl⟩
  go_wp2_with fail
  refine bodyPost_ret (v := _) (by simp [results, Try.results40, go_sem]; rfl) rfl ?_
  exact ⟨rfl, rfl⟩
theorem diskDone_nil (i : Value) (w : World) : Calls Try.prog 36 #[.pointer none, i] w fun e w' => e = .returned (.int .i64 0) ∧ w = w' := by
  go_enter Try.func36, Try.ntmps36
  go_wp2_with fail
  refine (find_nil _ _).mono ?_
  rintro e w1 ⟨rfl, rfl⟩
  go_wp2_with fail
  go_ret
  exact ⟨rfl, rfl⟩
theorem diskAreas_nil (w : World) : Calls Try.prog 41 #[.pointer none] w fun e w' => e = .returned (.int .i64 0) ∧ w = w' := by
  go_enter Try.func41, Try.ntmps41
  go_wp2
  go_ret
  exact ⟨rfl, rfl⟩
end Go.Proofs.Ytodaplkijdjbpaa
