/- Package disk, walked: Append, Sync, Cut, Trim. -/
import Derived.Test.YtodaplkijdjbpaaOperate
namespace Go.Proofs.Ytodaplkijdjbpaa
open Go.RowKit
set_option linter.unusedVariables false
set_option linter.unusedSimpArgs false
/-- An operation of an area, as a plain thing. -/
def Pd.op (P : Pd) (i : Int) (f : Pa → Option Pa) : Pd × Int :=
  if i < 0 ∨ (P.n : Int) ≤ i then (P, 81) else
  if P.down i.toNat then (P, 80) else
  match f (P.p i.toNat) with
  | none => (P, 70)
  | some a => (P.set i.toNat { a with f := (P.p i.toNat).f, done := (P.p i.toNat).done + 1 }, 0)
def Pa.append (b : List UInt8) (a : Pa) : Option Pa := some { a with bs := a.bs ++ b }
def Pa.sync (a : Pa) : Option Pa := some { a with safe := a.bs.length }
def Pa.cut (e : Int) (a : Pa) : Option Pa := if e < a.base ∨ a.base + a.bs.length < e then none else some { a with bs := a.bs.take (e - a.base).toNat, safe := min a.safe (e - a.base).toNat }
def Pa.trim (b : Int) (a : Pa) : Option Pa := if b < a.base ∨ a.base + a.safe < b then none else some { a with base := b, bs := a.bs.drop (b - a.base).toNat, safe := a.safe - (b - a.base).toNat }
/-- What a function that operate is handed does. -/
def FnTo (fn : Nat) (lb : Array Value) (w1 : World) (l : Loc) (r : Option Pa) : Prop :=
  match r with
  | none => Calls Try.prog fn (#[.pointer (some ⟨l.g, 0, none⟩)] ++ lb) w1 (fun e w' => e = .returned (.int .i64 70) ∧ Below w1.heap.size w1 w')
  | some a => Calls Try.prog fn (#[.pointer (some ⟨l.g, 0, none⟩)] ++ lb) w1 (ArTo w1 (arF l.g l.A) l.g a.base a.bs a.safe 0)
theorem op_any {w : World} {G pb K L : Nat} {ls : Nat → Loc} {P : Pd} (h : DAt w G pb ls P K) (i : Int) (fn : Nat) (lb : Array Value) (eg : ∀ args w, (callFunc fn args).run Try.prog w = .ok (.enter fn args) w) (f : Pa → Option Pa)
    (hf : ∀ j, j < P.n → ∀ w1, Below w.heap.size w w1 → FnTo fn lb w1 (ls j) (f (P.p j)))
    (hl : ∀ j, j < P.n → ∀ a, f (P.p j) = some a → ({ a with f := (P.p j).f, done := (P.p j).done + 1 } : Pa).lim L) (hk : K ≤ L) (hL : L ≤ 4294967296) :
    Calls Try.prog 47 #[.pointer (some ⟨G, 0, none⟩), .int .i64 i, .func (.func fn) #[] lb] w fun e w' => e = .returned (.int .i64 (P.op i f).2) ∧ DTo w G pb ls (P.op i f).1 L w' P.n := by
  unfold Pd.op
  by_cases hi : i < 0 ∨ (P.n : Int) ≤ i
  · rw [if_pos hi]
    refine (operate_bad h i hi _).mono ?_
    rintro e w' ⟨rfl, rfl⟩
    exact ⟨rfl, DTo.same (h.mono hk) (Below.refl _ _)⟩
  · rw [if_neg hi]
    obtain ⟨j, rfl⟩ : ∃ j : Nat, i = j := ⟨i.toNat, by omega⟩
    have hj : j < P.n := by omega
    rw [Int.toNat_natCast]
    cases hd : P.down j with
    | true =>
      rw [if_pos rfl]
      refine (operate_down h j hj hd _).mono ?_
      rintro e w' ⟨rfl, hb⟩
      exact ⟨rfl, DTo.same (h.mono hk) hb⟩
    | false =>
      rw [if_neg (by simp)]
      have h1 := hf j hj
      have h2 := hl j hj
      cases hr : f (P.p j) with
      | none =>
        rw [hr] at h1
        refine (operate_no h j hj hd fn lb eg h1).mono ?_
        rintro e w' ⟨rfl, hb⟩
        exact ⟨rfl, DTo.same (h.mono hk) hb⟩
      | some a =>
        rw [hr] at h1
        exact operate_ok h j hj hd fn lb eg (h2 a hr) hk hL h1
section
variable {w : World} {g : Nat} {A : Option Addr} {c : Nat} {base : Int} {bs : List UInt8} {s : Nat}
theorem append1_any (h : Ar w g A c base bs s) (q : Nat) (B : Option Addr) (m mc : Nat) (b : List UInt8) (hq : Blk w q #[.slice B m mc] 30) (hb : Bytes w B m b) (hm : bs.length + m ≤ 214748364800000) (hend : base + bs.length + m ≤ 4612811918334230528) :
    Calls Try.prog 48 #[.pointer (some ⟨g, 0, none⟩), .pointer (some ⟨q, 0, none⟩)] w (ArTo w (arF g A) g base (bs ++ b) s 0) := by
  have c0 : w.cell? ⟨q, 0, none⟩ = some (.slice B m mc) := hq.cell 0
  go_enter Try.func48, Try.ntmps48
  go_wp2_with fail
  refine (areaAppend_any h B m mc b hb hm hend).mono ?_
  rintro e w' ⟨rfl, hh⟩
  go_wp2_with fail
  go_ret
  exact ⟨rfl, hh⟩
theorem cut1_any (h : Ar w g A c base bs s) (q : Nat) (e : Int) (hq : Blk w q #[.int .i64 e] 3) (hi : ¬ (e < base ∨ base + bs.length < e)) :
    Calls Try.prog 62 #[.pointer (some ⟨g, 0, none⟩), .pointer (some ⟨q, 0, none⟩)] w (ArTo w (arF g A) g base (bs.take (e - base).toNat) (min s (e - base).toNat) 0) := by
  obtain ⟨k, hk⟩ : ∃ k : Nat, e = base + k := ⟨(e - base).toNat, by omega⟩
  subst hk
  have c0 : w.cell? ⟨q, 0, none⟩ = some (.int .i64 (base + k)) := hq.cell 0
  have e1 : (base + (k : Int) - base).toNat = k := by omega
  rw [e1]
  have hk : k ≤ bs.length := by omega
  go_enter Try.func62, Try.ntmps62
  go_wp2_with fail
  refine (areaCut_any h k hk).mono ?_
  rintro e w' ⟨rfl, hh⟩
  go_wp2_with fail
  go_ret
  exact ⟨rfl, hh⟩
theorem cut1_no (h : Ar w g A c base bs s) (q : Nat) (e : Int) (hq : Blk w q #[.int .i64 e] 3) (hi : e < base ∨ base + bs.length < e) :
    Calls Try.prog 62 #[.pointer (some ⟨g, 0, none⟩), .pointer (some ⟨q, 0, none⟩)] w (fun e w' => e = .returned (.int .i64 70) ∧ Below w.heap.size w w') := by
  have c0 : w.cell? ⟨q, 0, none⟩ = some (.int .i64 e) := hq.cell 0
  go_enter Try.func62, Try.ntmps62
  go_wp2_with fail
  refine (areaCut_no h e hi).mono ?_
  rintro e w' ⟨rfl, hh⟩
  go_wp2_with fail
  go_ret
  exact ⟨rfl, hh⟩
theorem trim1_any (h : Ar w g A c base bs s) (q : Nat) (e : Int) (hq : Blk w q #[.int .i64 e] 3) (hi : ¬ (e < base ∨ base + s < e)) :
    Calls Try.prog 64 #[.pointer (some ⟨g, 0, none⟩), .pointer (some ⟨q, 0, none⟩)] w (ArTo w (arF g A) g e (bs.drop (e - base).toNat) (s - (e - base).toNat) 0) := by
  obtain ⟨k, hk⟩ : ∃ k : Nat, e = base + k := ⟨(e - base).toNat, by omega⟩
  subst hk
  have c0 : w.cell? ⟨q, 0, none⟩ = some (.int .i64 (base + k)) := hq.cell 0
  have e1 : (base + (k : Int) - base).toNat = k := by omega
  rw [e1]
  have hk : k ≤ s := by omega
  go_enter Try.func64, Try.ntmps64
  go_wp2_with fail
  refine (areaTrim_any h k hk).mono ?_
  rintro e w' ⟨rfl, hh⟩
  go_wp2_with fail
  go_ret
  exact ⟨rfl, hh⟩
theorem trim1_no (h : Ar w g A c base bs s) (q : Nat) (e : Int) (hq : Blk w q #[.int .i64 e] 3) (hi : e < base ∨ base + s < e) :
    Calls Try.prog 64 #[.pointer (some ⟨g, 0, none⟩), .pointer (some ⟨q, 0, none⟩)] w (fun e w' => e = .returned (.int .i64 70) ∧ Below w.heap.size w w') := by
  have c0 : w.cell? ⟨q, 0, none⟩ = some (.int .i64 e) := hq.cell 0
  go_enter Try.func64, Try.ntmps64
  go_wp2_with fail
  refine (areaTrim_no h e hi).mono ?_
  rintro e w' ⟨rfl, hh⟩
  go_wp2_with fail
  go_ret
  exact ⟨rfl, hh⟩
end
end Go.Proofs.Ytodaplkijdjbpaa
