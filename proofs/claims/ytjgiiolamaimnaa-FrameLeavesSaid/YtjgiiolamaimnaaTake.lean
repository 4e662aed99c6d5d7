/- Package codec: a number of 32 bits taken off a reader of bytes; package frame's number. -/
import Derived.Test.YtjgiiolamaimnaaCodec
namespace Go.Proofs.Ytjgiiolamaimnaa
open Go.RowKit
set_option linter.unusedVariables false
set_option linter.unusedSimpArgs false
theorem own_cap4 {w : World} {B : Nat} {e : TypeId} {n c : Nat} {A : Option Addr} {bs : List UInt8} (h : w.ownsRow B e 1 (.slice A n c) n (bvals bs)) : n ≤ c := by
  obtain ⟨A', c', e, h1, _⟩ := own_reads h
  injection e with e1 e2 e3
  omega
theorem own_not_blk4 {w : World} {B : Nat} {e : TypeId} {z n : Nat} {v : Value} {xs : List Value} {g : Nat} {cs : Array Value} {t : TypeId} (h : w.ownsRow B e z v n xs) (hb : Blk w g cs t) (hne : e ≠ t) : v.ownBlock ≠ some g := by
  rcases h.2 with ⟨rfl, _⟩ | ⟨g', cap, cur, rfl, _, hg, _⟩
  · simp [Value.ownBlock]
  · intro e
    simp only [Value.ownBlock, Option.some.injEq] at e
    rw [e] at hg
    rw [Blk, hg] at hb
    injection hb with hb
    injection hb with a b c
    exact hne b
theorem caught_idle (p q : Addr) (w : World) :
    CallsD Try.prog 52 #[.pointer (some p), .pointer (some q)] .returning w fun e u' w' => e = .returned (.tuple #[]) ∧ u' = .returning ∧ w' = w := by
  refine callsD_of_wpS Try.func52 rfl fun c₀ cs hu => ?_
  apply wpS_seq
  apply wpS_region
  simp [wpOpsS, go_sem, recoverD, hu, Try.ntmps52, Exit.thenS]
  refine wpS_of_wp ?_
  simp only [Array.replicate_succ, Array.replicate_zero, List.push_toArray, List.nil_append, List.cons_append, List.setIfInBounds_toArray, List.append_toArray, List.set_cons_succ, List.set_cons_zero]
  go_wp2_with fail
  cases c₀
  simp_all [bodyPostS, results, Try.results52]
/-- The reader has moved on. -/
def ReadRet (g q : Nat) (v : Int) (w : World) (e : Ending) (w' : World) : Prop :=
  e = .returned (.tuple #[]) ∧ Blk w' q #[.int .u64 v] 67 ∧ Chg (fun k => k = g ∨ k = q) w w'
set_option maxHeartbeats 1600000 in
theorem creading_any (p q g b n c : Nat) (bs : List UInt8) (w : World) (hp : Blk w p #[.pointer (some ⟨g, 0, none⟩)] 70) (hq : Blk w q #[.int .u64 0] 67) (hB : Blk w g #[.slice (some ⟨b, 0, none⟩) n c, .int .i64 0, .int .i64 0] 78) (hb : Bytes w (some ⟨b, 0, none⟩) n bs) (hn : 4 ≤ n) (hn2 : n ≤ 214748364800000) (hc : n ≤ c)
    (hbg : b ≠ g) (hbq : b ≠ q) (hqg : q ≠ g) (hpg : p ≠ g) (hb2 : b < w.heap.size) :
    Calls Try.prog 48 #[.pointer (some ⟨g, 0, none⟩), .func (.func 49) #[] #[.pointer (some ⟨p, 0, none⟩), .pointer (some ⟨q, 0, none⟩)]] w (ReadRet g q (num bs 4) w) := by
  have hmf : ∀ (fn : Fn) (first cap : Array Value) (w : World), (Instr.makeFunc fn first cap).run Try.prog w = .ok (.func fn first cap) w := fun _ _ _ _ => rfl
  have hba := below_alloc w (.cells #[.pointer (some ⟨g, 0, none⟩)] 70)
  have hB1 := hB.keep hba
  have c1 : (w.alloc (.cells #[.pointer (some ⟨g, 0, none⟩)] 70)).cell? ⟨g, 1, none⟩ = _ := hB1.cell 1
  have c2 : (w.alloc (.cells #[.pointer (some ⟨g, 0, none⟩)] 70)).cell? ⟨g, 2, none⟩ = _ := hB1.cell 2
  simp at c1 c2
  go_enter_defers Try.func48, Try.ntmps48
  go_wp2_with fail
  have hbb := below_then hba (below_alloc (w.alloc (.cells #[.pointer (some ⟨g, 0, none⟩)] 70)) (.cells #[.int .i64 0] 3)) hba.size
  refine (ctaking_any p q g b n c bs _ (hp.keep hbb) (hq.keep hbb) (hB.keep hbb) (hb.below hbb) hn hn2 hc hbg hbq hqg hpg).mono ?_
  rintro e w2 ⟨rfl, hq2, hC2⟩
  have hC3 : Chg (fun k => k = g ∨ k = q) w w2 := Chg.after hbb hC2
  go_wp2_with fail
  refine leaves_cons (f := 52) (args := #[.pointer (some ⟨w.heap.size + 1, 0, none⟩), .pointer (some ⟨w.heap.size, 0, none⟩)]) (by simp) (by simp [go_sem]) ?_
  refine (caught_idle _ _ _).mono ?_
  rintro e u' w'' ⟨rfl, rfl, rfl⟩
  exact ⟨_, by simp [results, Try.results48, go_sem], rfl, hq2, hC3⟩
set_option maxHeartbeats 1600000 in
theorem ctake32_any (g b n c : Nat) (bs : List UInt8) (w : World) (hB : Blk w g #[.slice (some ⟨b, 0, none⟩) n c, .int .i64 0, .int .i64 0] 78) (hb : Bytes w (some ⟨b, 0, none⟩) n bs) (hn : 4 ≤ n) (hn2 : n ≤ 214748364800000) (hc : n ≤ c)
    (hbg : b ≠ g) (hb2 : b < w.heap.size) :
    Calls Try.prog 44 #[.pointer (some ⟨g, 0, none⟩)] w fun e w' => e = .returned (.int .u32 (num bs 4)) ∧ Chg (fun k => k = g) w w' := by
  have hmf : ∀ (fn : Fn) (first cap : Array Value) (w : World), (Instr.makeFunc fn first cap).run Try.prog w = .ok (.func fn first cap) w := fun _ _ _ _ => rfl
  have hba := below_alloc w (.cells #[.pointer (some ⟨g, 0, none⟩)] 70)
  have hbb := below_then hba (below_alloc (w.alloc (.cells #[.pointer (some ⟨g, 0, none⟩)] 70)) (.cells #[.int .u64 0] 67)) hba.size
  have hg := hB.lt
  have n0 := num_nonneg bs 4
  have n1 := num_lt bs
  have n2 : num bs 4 ≤ 4294967295 := by omega
  go_enter Try.func44, Try.ntmps44
  go_wp2_with fail
  refine (creading_any w.heap.size (w.heap.size + 1) g b n c bs _ (heap_alloc2_old _ _ _) (by have := Blk.fresh (w.alloc (.cells #[.pointer (some ⟨g, 0, none⟩)] 70)) #[.int .u64 0] 67; simpa using this) (hB.keep hbb) (hb.below hbb) hn hn2 hc hbg (by omega) (by omega) (by omega) (by simp; omega)).mono ?_
  rintro e w2 ⟨rfl, hq2, hC2⟩
  have q0 : w2.cell? ⟨w.heap.size + 1, 0, none⟩ = _ := hq2.cell 0
  simp at q0
  have hC3 : Chg (fun k => k = g) w w2 := (chg_below hbb (fun k => k = g)).trans hC2 (fun k e => e.elim .inl (fun e => .inr (by omega)))
  go_wp2_with fail
  go_ret
  exact ⟨by simp, hC3⟩
/-- What four bytes say, read out of a slice. -/
theorem number_any (A : Option Addr) (n c : Nat) (bs : List UInt8) (w : World) (hb : Bytes w A n bs) (hn : 4 ≤ n) (hc : n ≤ c) (hn2 : n ≤ 214748364800000) :
    Calls Try.prog 36 #[.slice A n c] w fun e w' => e = .returned (.int .i64 (num bs 4)) ∧ Below w.heap.size w w' := by
  have n0 := num_nonneg bs 4
  have n1 := num_lt bs
  have i0 : (4 : Int) ≤ (c : Int) := by omega
  have h4 := hb.take 4 (by omega)
  have hnum : num (bs.take 4) 4 = num bs 4 := by
    simp only [num, List.getD_eq_getElem?_getD]
    simp [List.getElem?_take]
  rcases hb.2.2 with h0 | ⟨b, o, rfl, _⟩
  · omega
  have HN := Lib.hid hnum
  clear hnum
  go_enter Try.func36, Try.ntmps36
  go_wp2_with fail
  refine (copen_any _ 4 c (bs.take 4) _ h4 (by omega)).mono ?_
  rintro e w1 ⟨g, A', c', rfl, hg, hB, ho, hb1⟩
  obtain ⟨bF, rfl⟩ : ∃ bF, A' = some ⟨bF, 0, none⟩ := by
    rcases ho.2 with ⟨h0, _⟩ | ⟨bF, cp, cur, he, _⟩
    · exact absurd h0 (by simp)
    · injection he with he
      exact ⟨bF, he⟩
  have hcap := own_cap4 ho
  go_wp2_with fail
  refine (ctake32_any g bF 4 c' (bs.take 4) _ hB (own_bytes' ho (by omega)) (by omega) (by omega) hcap (fun e => own_not_blk4 ho hB (by decide) (by rw [e]; rfl)) (ho.lt bF rfl).2).mono ?_
  rintro e w2 ⟨rfl, hC⟩
  rw [HN.out]
  have hb2 := hb1.trans (hC.below hb1.size (fun k e => by omega))
  go_wp2_with fail
  go_ret
  exact ⟨rfl, hb2⟩
end Go.Proofs.Ytjgiiolamaimnaa
