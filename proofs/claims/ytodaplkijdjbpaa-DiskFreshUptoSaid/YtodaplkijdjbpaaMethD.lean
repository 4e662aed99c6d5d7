/- Package disk, walked: the operations, of a disk in memory and of one that is not there. -/
import Derived.Test.YtodaplkijdjbpaaMeth
import Derived.Shelf.Abstract
namespace Go.Proofs.Ytodaplkijdjbpaa
open Go.RowKit Go.Shelf
set_option linter.unusedVariables false
set_option linter.unusedSimpArgs false
theorem Pa.lim.append {a : Pa} {K m : Nat} (h : a.lim K) (b : List UInt8) (hb : b.length = m) : ({ a with bs := a.bs ++ b, done := a.done + 1 } : Pa).lim (K + m + 1) :=
  ⟨by have := h.d; simp only; omega, h.b0, by have := h.e; simp only [List.length_append]; omega, by have := h.n; simp only [List.length_append]; omega, by have := h.s; simp only [List.length_append]; omega, h.f⟩
theorem Pa.lim.op {a a' : Pa} {K L : Nat} (h : a.lim K) {b : List UInt8} {e : Int} (hr : a.append b = some a' ∨ a.sync = some a' ∨ a.cut e = some a' ∨ a.trim e = some a') (hL : K + b.length + 1 ≤ L) : ({ a' with f := a.f, done := a.done + 1 } : Pa).lim L := by
  have h1 := h.d
  have h2 := h.b0
  have h3 := h.e
  have h4 := h.n
  have h5 := h.s
  rcases hr with hr | hr | hr | hr
  · unfold Pa.append at hr
    injection hr with hr
    subst hr
    refine ⟨?_, h.b0, ?_, ?_, ?_, h.f⟩ <;> simp only [List.length_append] <;> omega
  · unfold Pa.sync at hr
    injection hr with hr
    subst hr
    refine ⟨?_, h.b0, ?_, ?_, ?_, h.f⟩ <;> simp only <;> omega
  · unfold Pa.cut at hr
    split at hr
    · cases hr
    · injection hr with hr
      subst hr
      refine ⟨?_, h.b0, ?_, ?_, ?_, h.f⟩ <;> simp only [List.length_take] <;> omega
  · unfold Pa.trim at hr
    split at hr
    · cases hr
    · injection hr with hr
      subst hr
      refine ⟨?_, ?_, ?_, ?_, ?_, h.f⟩ <;> simp only [List.length_drop] <;> omega
section
variable {w : World} {G pb K L : Nat} {ls : Nat → Loc} {P : Pd}
theorem diskAppend_any (h : DAt w G pb ls P K) (i : Int) (B : Option Addr) (m mc : Nat) (b : List UInt8) (hb : Bytes w B m b) (hk : K + m + 1 ≤ L) (hL : L ≤ 4294967296) :
    Calls Try.prog 26 #[.pointer (some ⟨G, 0, none⟩), .int .i64 i, .slice B m mc] w fun e w' => e = .returned (.int .i64 (P.op i (Pa.append b)).2) ∧ DTo w G pb ls (P.op i (Pa.append b)).1 L w' P.n := by
  have hmf : ∀ (fn : Fn) (first cap : Array Value) (w : World), (Instr.makeFunc fn first cap).run Try.prog w = .ok (.func fn first cap) w := fun _ _ _ _ => rfl
  have hlen := hb.1
  have hba := below_alloc w (.cells #[.slice B m mc] 30)
  have hq := Blk.fresh w #[.slice B m mc] 30
  have hop := op_any (h.below hba) i 48 #[.pointer (some ⟨w.heap.size, 0, none⟩)] (enters_of Try.func48 (by kernel_rfl) rfl) (Pa.append b)
    (fun j hj w1 hw => by
      have hl := h.lim.a j hj
      exact append1_any (((h.ar j hj).below hba).below hw) _ B m mc b (hq.keep hw) ((hb.below hba).below hw) (by have := hl.n; omega) (by have := hl.e; omega))
    (fun j hj a ha => (h.lim.a j hj).op (b := b) (e := 0) (.inl ha) (by omega)) (by omega) hL
  have HOP := Lib.hid hop
  clear hop hq
  go_enter Try.func26, Try.ntmps26
  go_wp2_with fail
  refine HOP.out.mono ?_
  rintro e w' ⟨rfl, hh⟩
  go_wp2_with fail
  go_ret
  exact ⟨rfl, DTo.after hba hh⟩
theorem diskSync_any (h : DAt w G pb ls P K) (i : Int) (hk : K + 1 ≤ L) (hL : L ≤ 4294967296) :
    Calls Try.prog 27 #[.pointer (some ⟨G, 0, none⟩), .int .i64 i] w fun e w' => e = .returned (.int .i64 (P.op i Pa.sync).2) ∧ DTo w G pb ls (P.op i Pa.sync).1 L w' P.n := by
  have hop := op_any h i 50 #[] (enters_of Try.func50 (by kernel_rfl) rfl) Pa.sync
    (fun j hj w1 hw => areaSync_any ((h.ar j hj).below hw))
    (fun j hj a ha => (h.lim.a j hj).op (b := []) (e := 0) (.inr (.inl ha)) (by simp; omega)) (by omega) hL
  have HOP := Lib.hid hop
  clear hop
  go_enter Try.func27, Try.ntmps27
  go_wp2_with fail
  refine HOP.out.mono ?_
  rintro e w' ⟨rfl, hh⟩
  go_wp2_with fail
  go_ret
  exact ⟨rfl, hh⟩
theorem diskCut_any (h : DAt w G pb ls P K) (i e : Int) (hk : K + 1 ≤ L) (hL : L ≤ 4294967296) :
    Calls Try.prog 38 #[.pointer (some ⟨G, 0, none⟩), .int .i64 i, .int .i64 e] w fun en w' => en = .returned (.int .i64 (P.op i (Pa.cut e)).2) ∧ DTo w G pb ls (P.op i (Pa.cut e)).1 L w' P.n := by
  have hmf : ∀ (fn : Fn) (first cap : Array Value) (w : World), (Instr.makeFunc fn first cap).run Try.prog w = .ok (.func fn first cap) w := fun _ _ _ _ => rfl
  have hba := below_alloc w (.cells #[.int .i64 e] 3)
  have hq := Blk.fresh w #[.int .i64 e] 3
  have hop := op_any (h.below hba) i 62 #[.pointer (some ⟨w.heap.size, 0, none⟩)] (enters_of Try.func62 (by kernel_rfl) rfl) (Pa.cut e)
    (fun j hj w1 hw => by
      have ha := ((h.ar j hj).below hba).below hw
      unfold Pa.cut
      split
      · rename_i hi; exact cut1_no ha _ e (hq.keep hw) hi
      · rename_i hi; exact cut1_any ha _ e (hq.keep hw) hi)
    (fun j hj a ha => (h.lim.a j hj).op (b := []) (e := e) (.inr (.inr (.inl ha))) (by simp; omega)) (by omega) hL
  have HOP := Lib.hid hop
  clear hop hq
  go_enter Try.func38, Try.ntmps38
  go_wp2_with fail
  refine HOP.out.mono ?_
  rintro e w' ⟨rfl, hh⟩
  go_wp2_with fail
  go_ret
  exact ⟨rfl, DTo.after hba hh⟩
theorem diskTrim_any (h : DAt w G pb ls P K) (i e : Int) (hk : K + 1 ≤ L) (hL : L ≤ 4294967296) :
    Calls Try.prog 39 #[.pointer (some ⟨G, 0, none⟩), .int .i64 i, .int .i64 e] w fun en w' => en = .returned (.int .i64 (P.op i (Pa.trim e)).2) ∧ DTo w G pb ls (P.op i (Pa.trim e)).1 L w' P.n := by
  have hmf : ∀ (fn : Fn) (first cap : Array Value) (w : World), (Instr.makeFunc fn first cap).run Try.prog w = .ok (.func fn first cap) w := fun _ _ _ _ => rfl
  have hba := below_alloc w (.cells #[.int .i64 e] 3)
  have hq := Blk.fresh w #[.int .i64 e] 3
  have hop := op_any (h.below hba) i 64 #[.pointer (some ⟨w.heap.size, 0, none⟩)] (enters_of Try.func64 (by kernel_rfl) rfl) (Pa.trim e)
    (fun j hj w1 hw => by
      have ha := ((h.ar j hj).below hba).below hw
      unfold Pa.trim
      split
      · rename_i hi; exact trim1_no ha _ e (hq.keep hw) hi
      · rename_i hi; exact trim1_any ha _ e (hq.keep hw) hi)
    (fun j hj a ha => (h.lim.a j hj).op (b := []) (e := e) (.inr (.inr (.inr ha))) (by simp; omega)) (by omega) hL
  have HOP := Lib.hid hop
  clear hop hq
  go_enter Try.func39, Try.ntmps39
  go_wp2_with fail
  refine HOP.out.mono ?_
  rintro e w' ⟨rfl, hh⟩
  go_wp2_with fail
  go_ret
  exact ⟨rfl, DTo.after hba hh⟩
end
theorem diskAppend_nil (i : Int) (B : Option Addr) (m mc : Nat) (w : World) : Calls Try.prog 26 #[.pointer none, .int .i64 i, .slice B m mc] w fun e w' => e = .returned (.int .i64 1) ∧ Below w.heap.size w w' := by
  have hmf : ∀ (fn : Fn) (first cap : Array Value) (w : World), (Instr.makeFunc fn first cap).run Try.prog w = .ok (.func fn first cap) w := fun _ _ _ _ => rfl
  have hba := below_alloc w (.cells #[.slice B m mc] 30)
  go_enter Try.func26, Try.ntmps26
  go_wp2_with fail
  refine (operate_nil _ _ _).mono ?_
  rintro e w' ⟨rfl, rfl⟩
  go_wp2_with fail
  go_ret
  exact ⟨rfl, hba⟩
theorem diskSync_nil (i : Int) (w : World) : Calls Try.prog 27 #[.pointer none, .int .i64 i] w fun e w' => e = .returned (.int .i64 1) ∧ Below w.heap.size w w' := by
  go_enter Try.func27, Try.ntmps27
  go_wp2_with fail
  refine (operate_nil _ _ _).mono ?_
  rintro e w' ⟨rfl, rfl⟩
  go_wp2_with fail
  go_ret
  exact ⟨rfl, Below.refl _ _⟩
theorem diskCut_nil (i x : Int) (w : World) : Calls Try.prog 38 #[.pointer none, .int .i64 i, .int .i64 x] w fun e w' => e = .returned (.int .i64 1) ∧ Below w.heap.size w w' := by
  have hmf : ∀ (fn : Fn) (first cap : Array Value) (w : World), (Instr.makeFunc fn first cap).run Try.prog w = .ok (.func fn first cap) w := fun _ _ _ _ => rfl
  have hba := below_alloc w (.cells #[.int .i64 x] 3)
  go_enter Try.func38, Try.ntmps38
  go_wp2_with fail
  refine (operate_nil _ _ _).mono ?_
  rintro e w' ⟨rfl, rfl⟩
  go_wp2_with fail
  go_ret
  exact ⟨rfl, hba⟩
theorem diskTrim_nil (i x : Int) (w : World) : Calls Try.prog 39 #[.pointer none, .int .i64 i, .int .i64 x] w fun e w' => e = .returned (.int .i64 1) ∧ Below w.heap.size w w' := by
  have hmf : ∀ (fn : Fn) (first cap : Array Value) (w : World), (Instr.makeFunc fn first cap).run Try.prog w = .ok (.func fn first cap) w := fun _ _ _ _ => rfl
  have hba := below_alloc w (.cells #[.int .i64 x] 3)
  go_enter Try.func39, Try.ntmps39
  go_wp2_with fail
  refine (operate_nil _ _ _).mono ?_
  rintro e w' ⟨rfl, rfl⟩
  go_wp2_with fail
  go_ret
  exact ⟨rfl, hba⟩
end Go.Proofs.Ytodaplkijdjbpaa
