/- Package disk, walked: Image. -/
import Derived.Test.YtodaplkijdjbpaaDisk
import Derived.Test.YtodaplkijdjbpaaSep
namespace Go.Proofs.Ytodaplkijdjbpaa
open Go.RowKit
set_option linter.unusedVariables false
set_option linter.unusedSimpArgs false
def Rw.val (r : Rw) : Value := .slice r.A r.n r.c
/-- The cells of spans. -/
def spv (qs : List (Int × Rw)) : List Value := qs.flatMap fun q => [.int .i64 q.1, q.2.val]
theorem spv_length (qs : List (Int × Rw)) : (spv qs).length = qs.length * 2 := by
  induction qs with
  | nil => rfl
  | cons q qs ih => simp only [spv, List.flatMap_cons, List.length_append, List.length_cons, List.length_nil] at *; omega
theorem spv_append (xs ys : List (Int × Rw)) : spv (xs ++ ys) = spv xs ++ spv ys := by simp [spv]
theorem info_span : (Try.prog.info? 44).map (fun i => (i.zero, i.size, i.bytes)) = some (some (.agg #[.int .i64 0, .slice none 0 0]), 2, 32) := by kernel_rfl
theorem own_apart8 {w : World} {B B' : Nat} {e e' : TypeId} {z z' n n' : Nat} {v v' : Value} {xs xs' : List Value} (h : w.ownsRow B e z v n xs) (h' : w.ownsRow B' e' z' v' n' xs') (hne : e ≠ e') : v.ownBlock = none ∨ v.ownBlock ≠ v'.ownBlock := by
  rcases h.2 with ⟨rfl, _⟩ | ⟨g, cap, cur, rfl, _, hg, _⟩
  · exact .inl rfl
  · refine .inr fun e1 => ?_
    rcases h'.2 with ⟨rfl, _⟩ | ⟨g', cap', cur', rfl, _, hg', _⟩
    · simp [Value.ownBlock] at e1
    · simp only [Value.ownBlock, Option.some.injEq] at e1
      rw [e1, hg'] at hg
      injection hg with hg
      injection hg with a b c
      exact hne b.symm
/-- The spans of the first k areas. -/
def Pd.imageK (P : Pd) (k : Nat) : List (Int × List UInt8) := (List.range k).map fun j => ((P.p j).base, (P.p j).bs.take (P.p j).safe)
def Pd.image (P : Pd) : List (Int × List UInt8) := P.imageK P.n
theorem Pd.imageK_succ (P : Pd) (k : Nat) : P.imageK (k + 1) = P.imageK k ++ [((P.p k).base, (P.p k).bs.take (P.p k).safe)] := by simp [Pd.imageK, List.range_succ]
/-- Spans that are new, each with bytes of its own. -/
structure Spans (w : World) (B : Nat) (A : Option Addr) (n c : Nat) (qs : List (Int × Rw)) : Prop where
  len : qs.length = n
  row : w.ownsRow B 44 2 (.slice A n c) n (spv qs)
  sep : Sep w B (qs.map (·.2)).reverse
theorem Spans.below {w w1 : World} {B n c : Nat} {A : Option Addr} {qs : List (Int × Rw)} (h : Spans w B A n c qs) (hb : Below w.heap.size w w1) : Spans w1 B A n c qs := ⟨h.len, own_below h.row hb, h.sep.below hb⟩
def ImTo (l : List (Int × List UInt8)) (w : World) (e : Ending) (w' : World) : Prop :=
  ∃ A n c qs, e = .returned (.slice A n c) ∧ Spans w' w.heap.size A n c qs ∧ qs.map (fun q => (q.1, q.2.bs)) = l ∧ Below w.heap.size w w'
theorem diskImage_nil (w : World) : Calls Try.prog 21 #[.pointer none] w (ImTo [] w) := by
  go_enter Try.func21, Try.ntmps21
  go_wp2
  go_ret
  exact ⟨none, 0, 0, [], rfl, ⟨rfl, World.ownsRow_nil _ _ _ _, Sep.nil _ _⟩, rfl, Below.refl _ _⟩
set_option maxHeartbeats 1600000 in
theorem diskImage_any {w : World} {G pb K : Nat} {ls : Nat → Loc} {P : Pd} (h : DAt w G pb ls P K) :
    Calls Try.prog 21 #[.pointer (some ⟨G, 0, none⟩)] w (ImTo P.image w) := by
  have c0 : w.cell? ⟨G, 0, none⟩ = _ := h.hd.cell 0
  simp at c0
  have hn16 := h.lim.n1
  go_enter Try.func21, Try.ntmps21
  go_wp2_with fail
  go_loopw [3, 13] (fun v i wr => ∃ k : Nat, ∃ A c qs, k ≤ P.n ∧ i = .int .i64 k ∧ v = .slice A k c ∧ Spans wr w.heap.size A k c qs ∧ Hid (qs.map (fun q => (q.1, q.2.bs)) = P.imageK k) ∧ Below w.heap.size w wr) (fun _ i _ => P.n - (intOf i).toNat)
  case atStart => exact ⟨0, none, 0, [], Nat.zero_le _, rfl, rfl, ⟨rfl, World.ownsRow_nil _ _ _ _, Sep.nil _ _⟩, Lib.hid rfl, Below.refl _ _⟩
  case round =>
    clear c0
    obtain ⟨k, A, c, qs, hk, rfl, rfl, hS, HI, hB⟩ := hrel
    by_cases hlt : k < P.n
    · have hD := h.below hB
      obtain ⟨cs, hb, hcs⟩ := hD.ps
      have hj0 : (0 : Int) ≤ (k : Int) := by omega
      have hj1 : (k : Int) < (P.n : Int) := by omega
      have d0 : wr.cell? ⟨pb, k * 5, none⟩ = some (.pointer (some ⟨(ls k).g, 0, none⟩)) := (hb.cell _).trans (hcs.ptr k hlt)
      have d1 : wr.cell? ⟨pb, k * 5 + 1, none⟩ = some (.int .i64 _) := (hb.cell _).trans (hcs.fd k hlt)
      have d2 : wr.cell? ⟨pb, k * 5 + 2, none⟩ = some (.int .i64 _) := (hb.cell _).trans (hcs.fk k hlt)
      have d3 : wr.cell? ⟨pb, k * 5 + 3, none⟩ = some (.int .u8 _) := (hb.cell _).trans (hcs.ft k hlt)
      have d4 : wr.cell? ⟨pb, k * 5 + 4, none⟩ = some (.int .i64 _) := (hb.cell _).trans (hcs.dn k hlt)
      have har := hD.ar k hlt
      have HIS := Lib.hid (P.imageK_succ k)
      generalize P.p k = a at *
      generalize hfd : a.f.d = fd at *
      generalize hfk : a.f.k = fk at *
      generalize hft : ((a.f.t.toNat : Nat) : Int) = ft at *
      generalize hdn : a.done = dn at *
      generalize hgg : (ls k).g = gg at *
      generalize (ls k).A = AA at *
      generalize (ls k).c = cc at *
      clear hfd hfk hft hdn hgg hb hcs hD
      have x1 := below_alloc wr (.cells #[.pointer (some ⟨gg, 0, none⟩), .int .i64 fd, .int .i64 fk, .int .u8 ft, .int .i64 dn] 87)
      have hS1 := hS.below x1
      have ha1 := har.below x1
      have hB1 := below_then hB x1 hB.size
      have hs := har.sle
      have hn1 := har.n1
      clear x1 har hS
      go_wp2_with fail
      refine (areaImage_any ha1).mono ?_
      rintro e w2 ⟨A2, c2, rfl, ho2, hb2⟩
      have hS2 := hS1.below hb2
      have hB2 := below_then hB1 hb2 hB1.size
      have hsep := hS1.sep.add hb2 hB1.size ho2
      have x3 := below_alloc w2 (.cells #[.int .i64 a.base, .slice A2 a.safe c2] 44)
      have hS3 := hS2.below x3
      have hB3 := below_then hB2 x3 hB2.size
      have hsep3 := hsep.below x3
      have hR3 := rdc_block (heap_alloc_new w2 (.cells #[.int .i64 a.base, .slice A2 a.safe c2] 44))
      have hrow := hS3.row
      clear ho2 hb2 hS1 hS2 hB1 hB2 hsep x3 ha1
      go_wp2_with (at_builtin; (refine wpl_append _ rfl _ _ 34 rfl w.heap.size 44 _ 2 32 Try.underlying34 info_span rfl (by decide) (.slice A k c) k _ rfl hrow _ 1 1 [.int .i64 a.base, .slice A2 a.safe c2] rfl hR3 (by simp [Value.oneCell']) (by decide) (by decide) (by omega) hB3.size ?_); intro A4 c4 w4 ho4 hg4 hne4 hnn4; clear hne4 hnn4)
      have hB4 := hB3.grown hg4 hB3.size (own_base hrow)
      have hS4 : Spans w4 w.heap.size A4 (k + 1) c4 (qs ++ [(a.base, ⟨A2, a.safe, c2, a.bs.take a.safe⟩)]) := by
        refine ⟨by rw [List.length_append, hS3.len]; rfl, by rw [spv_append]; exact ho4, ?_⟩
        rw [List.map_append, List.reverse_append]
        exact hsep3.chg (chg_grown hg4) (fun r hr q e e2 => by
          rcases own_apart8 (hsep3.own r hr) hrow (by decide) with h0 | h0
          · rw [ownBlock_slice] at h0; rw [h0] at e; cases e
          · exact h0 (by rw [ownBlock_slice, e, e2]))
      have HI4 : Hid ((qs ++ [(a.base, (⟨A2, a.safe, c2, a.bs.take a.safe⟩ : Rw))]).map (fun q => (q.1, q.2.bs)) = P.imageK (k + 1)) := Lib.hid (by rw [HIS.out, List.map_append, HI.out]; rfl)
      clear ho4 hg4 hS3 hsep3 hrow hB3 hR3
      go_roundw
      case rel => exact ⟨k + 1, A4, c4, _, hlt, by go_num, rfl, hS4, HI4, hB4⟩
      case measure => simp [intOf]; omega
    · obtain rfl : k = P.n := by omega
      go_wp2_with fail
      go_ret
      exact ⟨A, P.n, c, qs, rfl, hS, HI.out, hB⟩
end Go.Proofs.Ytodaplkijdjbpaa
