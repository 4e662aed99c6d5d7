/- slices.Equal of bytes, spansAlike, alike. -/
import Derived.Test.YtodaplkijdjbpaaTold
namespace Go.Proofs.Ytodaplkijdjbpaa
open Go.RowKit
set_option linter.unusedVariables false
set_option linter.unusedSimpArgs false
theorem beq_of_len {xs ys : List UInt8} (h : xs.length ≠ ys.length) : (xs == ys) = false := by
  rw [beq_eq_false_iff_ne]
  exact fun e => h (by rw [e])
theorem eq_of_all {xs ys : List UInt8} (h : xs.length = ys.length) (hj : ∀ j, j < xs.length → xs.getD j 0 = ys.getD j 0) : xs = ys := by
  refine List.ext_getElem h fun i h1 h2 => ?_
  have := hj i h1
  rwa [List.getD_eq_getElem?_getD, List.getD_eq_getElem?_getD, List.getElem?_eq_getElem h1, List.getElem?_eq_getElem h2] at this
def EqTo (xs ys : List UInt8) (w : World) (e : Ending) (w' : World) : Prop := e = .returned (.bool (xs == ys)) ∧ ∃ q, w' = w.drewN q
set_option maxHeartbeats 1600000 in
theorem equal_any (A B : Option Addr) (l c m d : Nat) (xs ys : List UInt8) (w : World) (ha : Bytes w A l xs) (hb : Bytes w B m ys) :
    Calls Try.prog 18 #[.slice A l c, .slice B m d] w (EqTo xs ys w) := by
  have hl1 := ha.1
  have hl2 := hb.1
  have hl3 := ha.2.1
  have hl4 := hb.2.1
  by_cases hlm : l = m
  · subst hlm
    have HL := Lib.hid (And.intro hl1 hl2)
    clear hl1 hl2
    go_enter Try.func18, Try.ntmps18
    go_wp2
    go_loopw [13] (fun i wr => ∃ k q : Nat, k ≤ l ∧ i = .int .i64 k ∧ Hid (wr = w.drewN q) ∧ Hid (∀ j, j < k → xs.getD j 0 = ys.getD j 0)) (fun i _ => l - (intOf i).toNat)
    case atStart => exact ⟨0, 0, Nat.zero_le _, rfl, Lib.hid rfl, Lib.hid (fun j hj => by omega)⟩
    case round =>
      obtain ⟨k, q, hk, rfl, HW, HJ⟩ := hrel
      by_cases hlt : k < l
      · obtain ⟨b1, o1, x1, rfl, c1, e1⟩ := ha.at_ k hlt
        obtain ⟨b2, o2, x2, rfl, c2, e2⟩ := hb.at_ k hlt
        have d1 : wr.cell? ⟨b1, o1 + k, none⟩ = some (.int .u8 x1) := by rw [HW.out]; exact c1
        have d2 : wr.cell? ⟨b2, o2 + k, none⟩ = some (.int .u8 x2) := by rw [HW.out]; exact c2
        have hE := Lib.hid (And.intro e1 e2)
        have j0 : (0 : Int) ≤ (k : Int) := by omega
        have j1 : (k : Int) < (l : Int) := by omega
        clear c1 c2 e1 e2
        by_cases hx : x1 = x2
        · subst hx
          go_wp2_with fail
          go_quiet (fail)
          go_wp2_with fail
          go_roundw
          case rel => exact ⟨k + 1, q + nq, hlt, by go_num, Lib.hid (by rw [HW.out, World.drewN_drewN]), Lib.hid (fun j hj => by
            by_cases e : j = k
            · subst e
              have h1 := hE.out.1
              have h2 := hE.out.2
              exact UInt8.toNat_inj.1 (by omega)
            · exact HJ.out j (by omega))⟩
          case measure => simp [intOf]; omega
        · have hxd : (x1 != x2) = true := by simpa using hx
          go_wp2_with fail
          go_quiet (fail)
          go_wp2_with fail
          go_ret
          refine ⟨?_, q + nq, by rw [HW.out, World.drewN_drewN]⟩
          have hne : xs ≠ ys := fun e => hx (by rw [hE.out.1, hE.out.2, e])
          rw [beq_eq_false_iff_ne.2 hne]
          rfl
      · obtain rfl : k = l := by omega
        have he : xs = ys := eq_of_all (by rw [HL.out.1, HL.out.2]) (by rw [HL.out.1]; exact HJ.out)
        go_wp2
        go_ret
        exact ⟨by rw [he]; simp, q, HW.out⟩
  · have hd : (l != m) = true := by simpa using hlm
    have hz : ¬ ((l : Int) = (m : Int)) := by omega
    go_enter Try.func18, Try.ntmps18
    go_wp2
    go_ret
    exact ⟨by rw [beq_of_len (by omega)]; rfl, 0, rfl⟩
end Go.Proofs.Ytodaplkijdjbpaa
