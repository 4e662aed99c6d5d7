/- Rows of clocks: what the law package's clocks makes. -/
import Derived.Test.YtackbdcpbkohoaaClock
import Derived.Test.YtackbdcpbkohoaaStarts
import Derived.Test.YtackbdcpbkohoaaResults
import Derived.Deep.CutRange
namespace Go.Proofs.Ytackbdcpbkohoaa
open Go.RowKit
/-- A clock, or none: its block, where it stands, its window. -/
abbrev Ck := Option (Nat × Int × Int)
def ptA : Ck → Option Addr
  | some (g, _, _) => some ⟨g, 0, none⟩
  | none => none
def ptrV (x : Ck) : Value := .pointer (ptA x)
def rS : Ck → Int
  | some (_, s, _) => s
  | none => 0
def rW : Ck → Int
  | some (_, _, n) => n
  | none => 0
def rB (x : Ck) : Bool := x.isSome
/-- The document's clock. -/
def rcl (x : Ck) : List Value := [.bool (rB x), .int .i64 (rS x), .int .i64 (rW x)]
def rclV (x : Ck) : Value := .agg #[.bool (rB x), .int .i64 (rS x), .int .i64 (rW x)]
instance (s n : Int) : Decidable (GoodC s n) := by unfold GoodC; exact inferInstance
/-- What New makes. -/
def madeC (s n : Int) (g : Nat) : Ck := if GoodC s n then some (g, s, n) else none
def errC (s n : Int) : Int := if GoodC s n then 0 else 2
theorem new_gen (s n : Int) (w : World) : Calls Try.prog 15 #[.int .i64 s, .int .i64 n] w fun e w' =>
    e = .returned (.tuple #[.pointer (ptA (madeC s n w.heap.size)), .int .i64 (errC s n)]) ∧ Below w.heap.size w w' ∧ (GoodC s n → Clk w' w.heap.size s n) := by
  by_cases h : GoodC s n
  · simp only [madeC, errC, if_pos h, ptA]
    exact (new_yes s n w h).mono fun _ _ ⟨a, b, c⟩ => ⟨a, c, fun _ => b⟩
  · simp only [madeC, errC, if_neg h, ptA]
    exact (new_no s n w h).mono fun _ _ ⟨a, b⟩ => ⟨a, b ▸ Below.refl _ _, fun k => absurd k h⟩
theorem refNew_yes (s n : Int) (w : World) (h : GoodC s n) : Calls Try.prog 20 #[.int .i64 s, .int .i64 n] w fun e w' =>
    e = .returned (.tuple #[.agg #[.bool true, .int .i64 s, .int .i64 n], .int .i64 0]) ∧ Below w.heap.size w w' := by
  obtain ⟨h1, h2, h3, h4⟩ := h
  go_enter Try.func20, Try.ntmps20
  go_wp2
  refine bodyPost_ret (results_row_tmp rfl _ _ w.heap.size _ _ _ _ rfl (heap_alloc_new _ _) Try.underlying40 rfl (by kernel_rfl) _ rfl) rfl ?_
  exact ⟨rfl, (Below.refl _ _).alloc (Nat.le_refl _) _⟩
set_option maxHeartbeats 400000 in
theorem refNew_no (s n : Int) (w : World) (h : ¬ GoodC s n) : Calls Try.prog 20 #[.int .i64 s, .int .i64 n] w fun e w' =>
    e = .returned (.tuple #[.agg #[.bool false, .int .i64 0, .int .i64 0], .int .i64 2]) ∧ Below w.heap.size w w' := by
  have h' : s < 0 ∨ 4611686018427387904 < s ∨ n < 0 ∨ 1048576 < n := by unfold GoodC at h; omega
  clear h
  go_enter Try.func20, Try.ntmps20
  go_wp2
  all_goals
    first
    | (refine bodyPost_ret (results_row_tmp rfl _ _ w.heap.size _ _ _ _ rfl (heap_alloc_new _ _) Try.underlying40 rfl (by kernel_rfl) _ rfl) rfl ?_
       exact ⟨rfl, (Below.refl _ _).alloc (Nat.le_refl _) _⟩)
    | (exfalso; simp only [beq_iff_eq, Bool.or_eq_true, decide_eq_true_eq] at *; omega)
theorem refNew_gen (s n : Int) (g : Nat) (w : World) : Calls Try.prog 20 #[.int .i64 s, .int .i64 n] w fun e w' =>
    e = .returned (.tuple #[rclV (madeC s n g), .int .i64 (errC s n)]) ∧ Below w.heap.size w w' := by
  by_cases h : GoodC s n
  · simp only [madeC, errC, if_pos h, rclV, rB, rS, rW, Option.isSome]
    exact refNew_yes s n w h
  · simp only [madeC, errC, if_neg h, rclV, rB, rS, rW, Option.isSome]
    exact refNew_no s n w h
theorem own_apart {w : World} {B B' : Nat} {e e' : TypeId} {z z' n n' : Nat} {v v' : Value} {xs xs' : List Value} (h : w.ownsRow B e z v n xs) (h' : w.ownsRow B' e' z' v' n' xs') (hne : e ≠ e') : v.ownBlock = none ∨ v.ownBlock ≠ v'.ownBlock := by
  rcases h.2 with ⟨rfl, _⟩ | ⟨g, cap, cur, rfl, _, hg, _⟩
  · exact .inl rfl
  · rcases h'.2 with ⟨rfl, _⟩ | ⟨g', cap', cur', rfl, _, hg', _⟩
    · exact .inr (by simp [Value.ownBlock])
    · refine .inr fun e => ?_
      simp only [Value.ownBlock, Option.some.injEq] at e
      rw [e, hg'] at hg
      injection hg with hg
      injection hg with a b c
      exact hne b.symm
theorem own_not_blk {w : World} {B : Nat} {e : TypeId} {z n : Nat} {v : Value} {xs : List Value} {g : Nat} {cs : Array Value} {t : TypeId} (h : w.ownsRow B e z v n xs) (hb : Blk w g cs t) (hne : e ≠ t) : v.ownBlock ≠ some g := by
  rcases h.2 with ⟨rfl, _⟩ | ⟨g', cap, cur, rfl, _, hg, _⟩
  · simp [Value.ownBlock]
  · intro e
    simp only [Value.ownBlock, Option.some.injEq] at e
    rw [e] at hg
    rw [Blk, hg] at hb
    injection hb with hb
    injection hb with a b c
    exact hne b
/-- The clocks there are. -/
def Clks (B : Nat) (w : World) (xs : List Ck) : Prop := ∀ (i g : Nat) (s a : Int), xs[i]? = some (some (g, s, a)) → Clk w g s a ∧ B ≤ g ∧ GoodC s a
theorem Clks.below {B : Nat} {w w' : World} {xs : List Ck} (h : Clks B w xs) (hb : Below w.heap.size w w') : Clks B w' xs :=
  fun i g s a e => by obtain ⟨c, d, f⟩ := h i g s a e; exact ⟨Blk.keep c hb, d, f⟩
theorem Clks.grown {B : Nat} {w w' : World} {xs : List Ck} (h : Clks B w xs) {B' z n : Nat} {e : TypeId} {v : Value} {ys : List Value} (hv : w.ownsRow B' e z v n ys) (hne : e ≠ 63) (hg : w.grownBy w' v.ownBlock) : Clks B w' xs :=
  fun i g s a e => by obtain ⟨c, d, f⟩ := h i g s a e; exact ⟨Blk.grown c hg (own_not_blk hv c hne), d, f⟩
theorem Clks.push {B : Nat} {w : World} {xs : List Ck} (h : Clks B w xs) {s a : Int} {G : Nat} (hc : GoodC s a → Clk w G s a) (hG : B ≤ G) : Clks B w (xs ++ [madeC s a G]) := by
  intro i g s' a' e
  rw [List.getElem?_append] at e
  split at e
  · exact h i g s' a' e
  · rename_i hi
    have : i = xs.length := by
      have := (List.getElem?_eq_some_iff.1 e).1
      simp at this
      omega
    subst this
    simp only [Nat.sub_self, List.getElem?_cons_zero, Option.some.injEq] at e
    unfold madeC at e
    split at e
    · rename_i hg
      simp only [Option.some.injEq, Prod.mk.injEq] at e
      obtain ⟨rfl, rfl, rfl⟩ := e
      exact ⟨hc hg, hG, hg⟩
    · cases e
/-- No two are one. -/
def Inj (xs : List Ck) : Prop := ∀ (i j g : Nat) (s a s' a' : Int), xs[i]? = some (some (g, s, a)) → xs[j]? = some (some (g, s', a')) → i = j
theorem Inj.push {B : Nat} {w : World} {xs : List Ck} (h : Inj xs) (hc : Clks B w xs) {s a : Int} {G : Nat} (hG : w.heap.size ≤ G) : Inj (xs ++ [madeC s a G]) := by
  have key : ∀ i g s' a', (xs ++ [madeC s a G])[i]? = some (some (g, s', a')) → xs[i]? = some (some (g, s', a')) ∧ g < w.heap.size ∨ i = xs.length ∧ g = G := by
    intro i g s' a' e
    rw [List.getElem?_append] at e
    split at e
    · exact .inl ⟨e, (hc i g s' a' e).1.lt⟩
    · rename_i hi
      have : i = xs.length := by
        have := (List.getElem?_eq_some_iff.1 e).1
        simp at this
        omega
      subst this
      simp only [Nat.sub_self, List.getElem?_cons_zero, Option.some.injEq] at e
      unfold madeC at e
      split at e
      · simp only [Option.some.injEq, Prod.mk.injEq] at e
        exact .inr ⟨rfl, e.1.symm⟩
      · cases e
  intro i j g s1 a1 s2 a2 e1 e2
  rcases key i g s1 a1 e1 with ⟨k1, k2⟩ | ⟨k1, k2⟩
  · rcases key j g s2 a2 e2 with ⟨l1, l2⟩ | ⟨l1, l2⟩
    · exact h i j g s1 a1 s2 a2 k1 l1
    · omega
  · rcases key j g s2 a2 e2 with ⟨l1, l2⟩ | ⟨l1, l2⟩
    · omega
    · omega
/-- Two rows of clocks, the program's and the document's, that tell the same. -/
structure CL (B : Nat) (w : World) (M K : Value) (n : Nat) (xs : List Ck) : Prop where
  len : xs.length = n
  m : w.ownsRow B 29 1 M n (xs.map ptrV)
  k : w.ownsRow B 40 3 K n (xs.flatMap rcl)
  clk : Clks B w xs
  inj : Inj xs
theorem CL.below {B : Nat} {w w' : World} {M K : Value} {n : Nat} {xs : List Ck} (h : CL B w M K n xs) (hb : Below w.heap.size w w') : CL B w' M K n xs :=
  ⟨h.len, own_below h.m hb, own_below h.k hb, h.clk.below hb, h.inj⟩
theorem ptrV_one (xs : List Ck) : ∀ u ∈ xs.map ptrV, u.oneCell' = true := by
  intro u hu
  obtain ⟨x, _, rfl⟩ := List.mem_map.1 hu
  rfl
theorem rcl_one (xs : List Ck) : ∀ u ∈ xs.flatMap rcl, u.oneCell' = true := by
  intro u hu
  obtain ⟨x, _, hx⟩ := List.mem_flatMap.1 hu
  simp only [rcl, List.mem_cons, List.not_mem_nil, or_false] at hx
  rcases hx with rfl | rfl | rfl <;> rfl
theorem info_ptr : (Try.prog.info? 29).map (fun i => (i.zero, i.size, i.bytes)) = some (some (.pointer none), 1, 8) := by kernel_rfl
theorem info_rcl : (Try.prog.info? 40).map (fun i => (i.zero, i.size, i.bytes)) = some (some (.agg #[.bool false, .int .i64 0, .int .i64 0]), 3, 24) := by kernel_rfl
/-- What clocks answers. -/
def ClocksRet (n : Nat) (w : World) (e : Ending) (w' : World) : Prop :=
  ∃ A1 c1 A2 c2 xs, e = .returned (.tuple #[.slice A1 n c1, .slice A2 n c2]) ∧ CL w.heap.size w' (.slice A1 n c1) (.slice A2 n c2) n xs ∧ Below w.heap.size w w'
set_option maxRecDepth 100000 in
set_option maxHeartbeats 1600000 in
theorem clocks_any (A : Option Addr) (n c : Nat) (ss : List (Int × Int)) (w : World) (h : RecS IsStart w 2 A n ss) (hn : n * 16 ≤ 140737488351232) :
    Calls Try.prog 27 #[.slice A n c] w (ClocksRet n w) := by
  go_enter Try.func27, Try.ntmps27
  have H0 := World.ownsRow_made (e := 29) (size := 1) w #[] 0 (Nat.le_refl _) (by simp [maxLen]) rfl
  have hB1 := below_alloc w (.cells #[] 29)
  have H1 := World.ownsRow_made (e := 40) (size := 3) (w.alloc (.cells #[] 29)) #[] 0 (Nat.le_refl _) (by simp [maxLen]) rfl
  have hB2 := below_alloc (w.alloc (.cells #[] 29)) (.cells #[] 40)
  have hs1 : (w.alloc (.cells #[] 29)).heap.size = w.heap.size + 1 := by simp
  rw [hs1] at H1
  have hB2' := below_then hB1 hB2 hB1.size
  have H0' := own_below H0 hB2
  go_wp2
  generalize (w.alloc (.cells #[] 29)).alloc (.cells #[] 40) = w2 at *
  have hCL : CL w.heap.size w2 (.slice (some ⟨w.heap.size, 0, none⟩) 0 0) (.slice (some ⟨w.heap.size + 1, 0, none⟩) 0 0) 0 [] :=
    ⟨rfl, H0', own_mono H1 (by omega), fun i g s a e => by simp at e, fun i j g s a s' a' e => by simp at e⟩
  clear H0 H1 H0' hB1 hB2 hs1
  go_loopw [4, 5, 16] (fun m q i wr => ∃ k : Nat, ∃ A1 c1 A2 c2 xs, k ≤ n ∧ i = .int .i64 k ∧ m = .slice A1 k c1 ∧ q = .slice A2 k c2 ∧ CL w.heap.size wr (.slice A1 k c1) (.slice A2 k c2) k xs ∧ Below w.heap.size w wr) (fun _ _ i _ => n - (intOf i).toNat)
  case atStart => exact ⟨0, _, _, _, _, _, by omega, rfl, rfl, rfl, hCL, hB2'⟩
  case round =>
    clear hCL hB2'
    obtain ⟨k, A1, c1, A2, c2, xs, hk, rfl, rfl, rfl, hC, hB⟩ := hrel
    by_cases hlt : k < n
    · obtain ⟨b, o, cs, x, rfl, hx, _, hS, hc⟩ := h.at_ k hlt
      obtain ⟨s, a⟩ := x
      unfold IsStart at hS
      subst hS
      have q0 := hc 0 _ rfl
      have q1 := hc 1 _ rfl
      have r0 := (hB.cell (p := ⟨b, o + k * 2 + 0, none⟩) (block_lt_of_cell q0)).trans q0
      have r1 := (hB.cell (p := ⟨b, o + k * 2 + 1, none⟩) (block_lt_of_cell q1)).trans q1
      rw [Nat.add_zero] at r0
      clear q0 q1 hc hx
      have hBa := below_alloc wr (.cells #[.int .i64 s, .int .i64 a] 28)
      have hDa := Blk.fresh wr #[.int .i64 s, .int .i64 a] 28
      have hCa := hC.below hBa
      have hBb := below_then hB hBa hB.size
      go_wp2_with fail
      generalize wr.alloc (.cells #[.int .i64 s, .int .i64 a] 28) = w1 at *
      refine (new_gen s a _).mono ?_
      rintro e w2 ⟨rfl, hB2, hK2⟩
      have hD2 : Blk w2 _ _ _ := hDa.keep hB2
      have hB2' := below_then hBb hB2 hBb.size
      have hp2 := hCa.clk.below hB2
      have hi2 := hCa.inj.push hCa.clk (s := s) (a := a) (Nat.le_refl w1.heap.size)
      have hc2 := Clks.push hp2 hK2 hBb.size
      have hm2 := own_below hCa.m hB2
      have hk2 := own_below hCa.k hB2
      have hl2 : (xs ++ [madeC s a w1.heap.size]).length = k + 1 := by rw [List.length_append, hCa.len]; rfl
      have HR := Lib.hid (refNew_gen s a w1.heap.size w2)
      generalize madeC s a w1.heap.size = x at *
      have d0 : w2.cell? ⟨wr.heap.size, 0, none⟩ = some (.int .i64 s) := hD2.cell 0
      have d1 : w2.cell? ⟨wr.heap.size, 1, none⟩ = some (.int .i64 a) := hD2.cell 1
      have HI := Lib.hid hi2
      clear hi2 hp2 hK2 d0 d1
      have d0 : w2.cell? ⟨wr.heap.size, 0, none⟩ = some (.int .i64 s) := hD2.cell 0
      have d1 : w2.cell? ⟨wr.heap.size, 1, none⟩ = some (.int .i64 a) := hD2.cell 1
      go_wp2_with fail
      refine HR.out.mono ?_
      rintro e w3 ⟨rfl, hB3⟩
      unfold rclV
      have hB3' := below_then hB2' hB3 hB2'.size
      have hm3 := own_below hm2 hB3
      have hk3 := own_below hk2 hB3
      have hc3 := hc2.below hB3
      have hB4 := below_alloc w3 (.cells #[.bool (rB x), .int .i64 (rS x), .int .i64 (rW x)] 40)
      have hD4 := Blk.fresh w3 #[.bool (rB x), .int .i64 (rS x), .int .i64 (rW x)] 40
      have hB4' := below_then hB3' hB4 hB3'.size
      have hm4 := own_below hm3 hB4
      have hk4 := own_below hk3 hB4
      have hc4 := hc3.below hB4
      clear d0 d1 hB2 hB3 hB2' hB3' hm2 hk2 hc2 hm3 hk3 hc3
      go_upto_region 8 with fail
      generalize w3.alloc (.cells #[.bool (rB x), .int .i64 (rS x), .int .i64 (rW x)] 40) = w4 at *
      have hB5 := below_alloc w4 (.cells #[.pointer (ptA x)] 29)
      have hD5 : Blk _ _ _ _ := hD4.keep hB5
      have hm5 := own_below hm4 hB5
      have hk5 := own_below hk4 hB5
      have hc5 := hc4.below hB5
      have hB5' := below_then hB4' hB5 hB4'.size
      have hR5 := rdc_block (heap_alloc_new w4 (.cells #[.pointer (ptA x)] 29))
      go_upto_region 9 with (at_builtin; (refine wpl_append _ rfl (.tmp 36) (.tmp 38) 52 rfl w.heap.size 29 _ 1 8 Try.underlying52 info_ptr rfl (by decide) (.slice A1 k c1) k _ rfl hm5 _ 1 _ _ rfl hR5 (ptrV_one [x]) (by decide) (by decide) (by omega) hB5'.size ?_); intro A3 c3 w6 hm6 hg6 hne6 hnn6; clear hnn6 hne6)
      rw [show xs.map ptrV ++ (#[Value.pointer (ptA x)]).toList = (xs ++ [x]).map ptrV by rw [List.map_append]; rfl] at hm6
      have hk6 := hk5.kept hg6 (own_apart hk5 hm5 (by decide))
      have hc6 := hc5.grown hm5 (by decide) hg6
      have hD6 : Blk w6 _ _ _ := hD5.grown hg6 (own_not_blk hm5 hD5 (by decide))
      have hB6 := hB5'.grown hg6 hB5'.size (own_base hm5)
      clear hm5 hk5 hc5 hB5 hB5' hm4 hk4 hc4 hB4' hB4 hR5 hg6 hD4 hD5
      have e0 : w6.cell? ⟨w3.heap.size, 0, none⟩ = some (.bool (rB x)) := hD6.cell 0
      have e1 : w6.cell? ⟨w3.heap.size, 1, none⟩ = some (.int .i64 (rS x)) := hD6.cell 1
      have e2 : w6.cell? ⟨w3.heap.size, 2, none⟩ = some (.int .i64 (rW x)) := hD6.cell 2
      have hB7 := below_alloc w6 (.cells #[.bool (rB x), .int .i64 (rS x), .int .i64 (rW x)] 40)
      have hm7 := own_below hm6 hB7
      have hk7 := own_below hk6 hB7
      have hc7 := hc6.below hB7
      have hB7' := below_then hB6 hB7 hB6.size
      have hR7 := rdc_block (heap_alloc_new w6 (.cells #[.bool (rB x), .int .i64 (rS x), .int .i64 (rW x)] 40))
      go_wp2_with (at_builtin; (refine wpl_append _ rfl (.tmp 40) (.tmp 42) 53 rfl w.heap.size 40 _ 3 24 Try.underlying53 info_rcl rfl (by decide) (.slice A2 k c2) k _ rfl hk7 _ 1 _ _ rfl hR7 (rcl_one [x]) (by decide) (by decide) (by omega) hB7'.size ?_); intro A4 c4 w8 hk8 hg8 hne8 hnn8; clear hnn8 hne8)
      rw [show xs.flatMap rcl ++ (#[Value.bool (rB x), .int .i64 (rS x), .int .i64 (rW x)]).toList = (xs ++ [x]).flatMap rcl by rw [List.flatMap_append]; rfl] at hk8
      have hm8 := hm7.kept hg8 (own_apart hm7 hk7 (by decide))
      have hc8 := hc7.grown hk7 (by decide) hg8
      have hB8 := hB7'.grown hg8 hB7'.size (own_base hk7)
      go_roundw
      case rel => exact ⟨k + 1, A3, c3, A4, c4, _, by omega, by go_num, rfl, rfl, ⟨hl2, hm8, hk8, hc8, HI.out⟩, hB8⟩
      case measure => simp [intOf]; omega
    · obtain rfl : k = n := by omega
      go_wp2
      go_ret2
      exact ⟨_, _, _, _, _, rfl, hC, hB⟩
end Go.Proofs.Ytackbdcpbkohoaa
