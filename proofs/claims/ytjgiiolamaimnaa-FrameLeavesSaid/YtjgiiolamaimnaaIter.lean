/- A loop over an iterator whose rounds are told what they are handed. No program in sight. -/
import Derived.Test.YtjgiiolamaimnaaFoot
import Derived.RangeFuncBox
import Derived.RangeFuncLeaves
import Derived.RangeFuncCalls
import Derived.Shelf.Abstract
import Derived.OwnWalkIn
import Derived.TacticsInMore
import Derived.LoopNIn
import Derived.LoopIn
namespace Go.Proofs.Ytjgiiolamaimnaa
open Go.RowKit
set_option linter.unusedVariables false
set_option linter.unusedSimpArgs false
/-- The two blocks of a loop's book-keeping. -/
def bookF (w : World) : Nat → Prop := fun q => q = w.heap.size ∨ q = w.heap.size + 1
theorem chg_put (F : Nat → Prop) (W : World) (r : Nat) (o : Obj) (h : F r) : Chg F W (W.putObj r o) :=
  ⟨rfl, rfl, rfl, by simp [World.putObj], fun k _ hn => World.putObj_heap_other (fun e => hn (e ▸ h))⟩
/-- An iterator of N rounds: round k is handed vals of which V k W0 W vals holds: W0 is the world behind the round before, W the world as it is now. The blocks of Pq the rounds must keep. -/
def Iter (P : Program) (gf : Nat) (lb : Array Value) (m : Nat) (V : Nat → World → World → Array Value → Prop) (N : Nat) (Pq : Nat → Prop) (w : World) : Prop :=
  ∀ (l : Nat) (J Jx : Nat → World → Prop) (W : World), Below w.heap.size w W →
    (∀ k A B, J k A → Below A.heap.size A B → J k B) →
    (∀ k W0 W1 vals, k < N → J k W0 → Below W0.heap.size W0 W1 → V k W0 W1 vals → YieldAt Fence.wide m P l vals W1 fun e W' =>
      (e = .returned (.bool true) ∧ J (k + 1) W' ∧ Chg (fun q => ¬ Pq q) W1 W') ∨ (e = .returned (.bool false) ∧ Jx (k + 1) W')) →
    J 0 W →
    CallsIn Fence.wide (m + 1) P gf (#[.func (.yield l) #[] #[]] ++ lb) W fun e W' => (∃ v, e = .returned v) ∧ (J N W' ∨ ∃ k, k ≤ N ∧ Jx k W')
/-- The two blocks lie as they lay. -/
def Keep2 (w A B : World) : Prop := B.heap[w.heap.size]? = A.heap[w.heap.size]? ∧ B.heap[w.heap.size + 1]? = A.heap[w.heap.size + 1]?
/-- How a round's body may be left. -/
def roundTo (w : World) (Pq : Nat → Prop) (I : Nat → World → Prop) (Ix : Code → Nat → World → Prop) (k : Nat) (W : World) : Exit → Act → World → Prop
  | .normal, _, W' => Keep2 w W W' ∧ Chg (fun q => ¬ Pq q) W W' ∧ I (k + 1) W'
  | .ret, _, W' => Keep2 w W W' ∧ Ix .ret (k + 1) W'
  | .exit id, _, W' => Keep2 w W W' ∧ Ix (.exit id) (k + 1) W'
  | .goto t, _, W' => Keep2 w W W' ∧ Ix (.goto t) (k + 1) W'
  | .panic _, _, _ => False
  | .outgrown, _, _ => False
theorem range_law {P : Program} {m : Nat} {g : Operand} {ps : Array Tmp} {assign body : Code} {Q : Exit → Act → World → Prop} {a : Act} {w : World} {gf : Nat} {lb : Array Value}
    (hg : a.eval g = .func (.func gf) #[] lb) (eg : ∀ args w, (callFunc gf args).run P w = .ok (.enter gf args) w)
    {V : Nat → World → World → Array Value → Prop} {N : Nat} {Pq : Nat → Prop} (hseq : Iter P gf lb m V N Pq w) (hps : ∀ k W0 W1 vals, V k W0 W1 vals → vals.size = ps.size)
    (hV : ∀ k W0 A B vals, V k W0 A vals → w.heap.size + 2 ≤ W0.heap.size → Chg (bookF w) A B → V k W0 B vals) (hPq : ∀ q, Pq q → q < w.heap.size)
    (I : Nat → World → Prop) (Ix : Code → Nat → World → Prop) (hIs : ∀ k A B, I k A → Below A.heap.size A B → I k B) (hI : ∀ k A B, I k A → w.heap.size + 2 ≤ A.heap.size → Chg (bookF w) A B → I k B) (hIx : ∀ c k A B, Ix c k A → w.heap.size + 2 ≤ A.heap.size → Chg (bookF w) A B → Ix c k B)
    (h0 : I 0 w) (a₁ : Array Value → Act)
    (hassign : ∀ (l k : Nat) (W0 W : World) (vals : Array Value) (K : Act → World → Prop), V k W0 W vals → K (a₁ vals) W →
      assign.wpIn (Fence.wide.inRound l) m P (Exit.then K (fun _ _ _ => False)) { tmps := (ps.zip vals).foldl (fun t (p, v) => t.setIfInBounds p v) a.tmps, defers := [] } W)
    (hbody : ∀ (l k : Nat) (W0 W : World) (vals : Array Value), k < N → w.heap.size + 2 ≤ W0.heap.size → I k W0 → Chg (bookF w) W0 W → I k W → V k W0 W vals → body.wpIn (Fence.wide.inRound l) m P (roundTo w Pq I Ix k W) (a₁ vals) W)
    (hdone : ∀ W, w.heap.size + 2 ≤ W.heap.size → I N W → W.heap[w.heap.size]? = some (.deferred (some [])) → Q .normal { a with defers := { target := .collected w.heap.size, args := #[] } :: a.defers } W)
    (hstop : ∀ c k W, k ≤ N → w.heap.size + 2 ≤ W.heap.size → Ix c k W → W.heap[w.heap.size]? = some (.deferred (some [])) → c.wpIn Fence.wide (m + 2) P Q { a with defers := { target := .collected w.heap.size, args := #[] } :: a.defers } W) :
    (Code.rangeFunc g ps assign body).wpIn Fence.wide (m + 2) P Q a w := by
  refine wpIn_rangeFunc fun fn hfn => ?_
  obtain ⟨rc, hrc⟩ : ∃ rc : LoopState → Option Code → Loop, rc = fun st pe => { state := st, pending := pe, fn, tmps := a.tmps, params := ps, assign, body, defers := w.heap.size } := ⟨_, rfl⟩
  obtain ⟨Wa, hWa⟩ : ∃ Wa, (w.alloc (.deferred (some []))).alloc (.loop (rc .ready none)) = Wa := ⟨_, rfl⟩
  have hb1 : Below w.heap.size w (w.alloc (.deferred (some []))) := (Below.refl _ w).alloc (Nat.le_refl _) _
  have hba : Below w.heap.size w Wa := by rw [← hWa]; exact hb1.alloc hb1.size _
  have hza : Wa.heap.size = w.heap.size + 2 := by rw [← hWa]; simp
  have hla : Wa.heap[w.heap.size + 1]? = some (.loop (rc .ready none)) := by
    have := World.alloc_heap_new (w.alloc (.deferred (some []))) (.loop (rc .ready none))
    rw [World.size_alloc, hWa] at this
    exact this
  have hda : Wa.heap[w.heap.size]? = some (.deferred (some [])) := by
    rw [← hWa]
    exact (Below.heap_alloc _ _ _ (by simp)).trans (World.alloc_heap_new w _)
  have hbk : ∀ q, bookF w q → ¬ Pq q := fun q e e2 => by have := hPq q e2; rcases e with e | e <;> omega
  have stays : ∀ {A B : World} {q : Nat} {o : Obj}, A.heap[q]? = some o → Below A.heap.size A B → B.heap[q]? = some o := fun hq hb => (hb.block _ (Array.getElem?_eq_some_iff.1 hq).1).trans hq
  have lt_of : ∀ {A : World} {q : Nat} {o : Obj}, A.heap[q]? = some o → q < A.heap.size := fun hq => (Array.getElem?_eq_some_iff.1 hq).1
  refine ⟨w.heap.size + 1, [{ target := .collected w.heap.size, args := #[] }], Wa, { target := .fn (.func gf) lb, args := #[.func (.yield (w.heap.size + 1)) #[] #[]] }, Wa, gf, #[.func (.yield (w.heap.size + 1)) #[] #[]] ++ lb, Wa, ?_, ?_, fun _ _ => trivial, ?_, fun h => by simp [Fence.wide] at h, ?_⟩
  · rw [← hWa, hrc]
    exact run_enterLoop_outer _ _ _ _ _
  · simp only [resolve, hg]
    simp [go_sem]
  · simp [invoke, go_sem, eg]
  refine (hseq (w.heap.size + 1) (fun k W => I k W ∧ W.heap[w.heap.size + 1]? = some (.loop (rc .ready none)) ∧ W.heap[w.heap.size]? = some (.deferred (some [])))
    (fun k W => ∃ c, Ix c k W ∧ W.heap[w.heap.size + 1]? = some (.loop (rc .done (some c))) ∧ W.heap[w.heap.size]? = some (.deferred (some []))) Wa hba
    (fun k A B h hb => ⟨hIs k A B h.1 hb, stays h.2.1 hb, stays h.2.2 hb⟩) ?_ ⟨hIs 0 w Wa h0 hba, hla, hda⟩).mono ?_
  · rintro k W0 W1 vals hk ⟨hi0, hl0, hd0⟩ hb01 hv
    have hz0 : w.heap.size + 2 ≤ W0.heap.size := lt_of hl0
    have hi1 := hIs k W0 W1 hi0 hb01
    have hl1 := stays hl0 hb01
    have hd1 := stays hd0 hb01
    have hlt1 := lt_of hl1
    have hy := run_yield (P := P) (args := vals) hl1 (by rw [hrc]; exact hps k W0 W1 vals hv)
    rw [hrc] at hy
    refine ⟨fn, _, assign, body, hy, roundIn_of_wpIn hfn (hassign _ k W0 W1 vals _ hv ?_)⟩
    refine ⟨_, run_beginRound hl1 (by rw [hrc]), ?_⟩
    obtain ⟨W2, hW2⟩ : ∃ W2, W1.putObj (w.heap.size + 1) (.loop { rc .ready none with state := .busy }) = W2 := ⟨_, rfl⟩
    rw [hW2]
    have hl2 : W2.heap[w.heap.size + 1]? = some (.loop { rc .ready none with state := .busy }) := by rw [← hW2]; exact World.putObj_heap_same hlt1
    have hd2 : W2.heap[w.heap.size]? = some (.deferred (some [])) := by rw [← hW2]; exact (World.putObj_heap_other (by omega)).trans hd1
    have hc12 : Chg (bookF w) W1 W2 := by rw [← hW2]; exact chg_put _ _ _ _ (.inr rfl)
    have hi2 := hI k W1 W2 hi1 (Nat.le_trans hz0 hb01.size) hc12
    have hv2 := hV k W0 W1 W2 vals hv hz0 hc12
    have hz2 : w.heap.size + 2 ≤ W2.heap.size := lt_of hl2
    refine wpIn_mono (hbody _ k W0 W2 vals hk hz0 hi0 ((chg_below hb01 (bookF w)).trans hc12 (fun q e => .inl e)) hi2 hv2) ?_
    have fin : ∀ (jump : Option Code) (W3 : World), Keep2 w W2 W3 → ∃ W4, (Instr.endRound (w.heap.size + 1) jump).run P W3 = .ok (.bool jump.isNone) W4 ∧ W4.heap[w.heap.size + 1]? = some (.loop (rc (if jump.isNone then .ready else .done) jump)) ∧ W4.heap[w.heap.size]? = some (.deferred (some [])) ∧ Chg (bookF w) W3 W4 ∧ w.heap.size + 2 ≤ W3.heap.size := fun jump W3 hk2 => by
      have hl3 := hk2.2.trans hl2
      have hd3 := hk2.1.trans hd2
      have hr := run_endRound (P := P) jump hl3
      refine ⟨_, hr, ?_, (World.putObj_heap_other (by omega)).trans hd3, chg_put _ _ _ _ (.inr rfl), lt_of hl3⟩
      rw [World.putObj_heap_same (lt_of hl3), hrc]
    rintro e a3 W3 hp
    cases e with
    | normal =>
      obtain ⟨hk2, hb3, hi3⟩ := hp
      obtain ⟨W4, hr, hl4, hd4, hc4, hz3⟩ := fin none W3 hk2
      exact ⟨_, W4, hr, .inl ⟨rfl, ⟨hI _ W3 W4 hi3 hz3 hc4, hl4, hd4⟩, ((hc12.mono hbk).trans hb3 (fun q e => .inl e)).trans (hc4.mono hbk) (fun q e => .inl e)⟩⟩
    | ret =>
      obtain ⟨hk2, hi3⟩ := hp
      obtain ⟨W4, hr, hl4, hd4, hc4, hz3⟩ := fin (some .ret) W3 hk2
      exact ⟨_, W4, hr, .inr ⟨rfl, .ret, hIx _ _ W3 W4 hi3 hz3 hc4, hl4, hd4⟩⟩
    | exit id =>
      obtain ⟨hk2, hi3⟩ := hp
      obtain ⟨W4, hr, hl4, hd4, hc4, hz3⟩ := fin (some (.exit id)) W3 hk2
      exact ⟨_, W4, hr, .inr ⟨rfl, .exit id, hIx _ _ W3 W4 hi3 hz3 hc4, hl4, hd4⟩⟩
    | goto t =>
      obtain ⟨hk2, hi3⟩ := hp
      obtain ⟨W4, hr, hl4, hd4, hc4, hz3⟩ := fin (some (.goto t)) W3 hk2
      exact ⟨_, W4, hr, .inr ⟨rfl, .goto t, hIx _ _ W3 W4 hi3 hz3 hc4, hl4, hd4⟩⟩
    | panic ch => exact hp.elim
    | outgrown => exact hp.elim
  · rintro e W2 ⟨⟨v, rfl⟩, ⟨hi, hl, hd⟩ | ⟨k, hk, c, hi, hl, hd⟩⟩
    · have hr := run_endLoop (P := P) hl (by rw [hrc]; simp)
      have hz : w.heap.size + 2 ≤ W2.heap.size := lt_of hl
      have hc := chg_put (bookF w) W2 (w.heap.size + 1) (.loop { rc .ready none with state := .exhausted }) (.inr rfl)
      exact ⟨none, _, by rw [hrc] at hr ⊢; exact hr, hdone _ (Nat.le_trans hz hc.size) (hI _ _ _ hi hz hc) ((World.putObj_heap_other (by omega)).trans hd)⟩
    · have hr := run_endLoop (P := P) hl (by rw [hrc]; simp)
      have hz : w.heap.size + 2 ≤ W2.heap.size := lt_of hl
      have hc := chg_put (bookF w) W2 (w.heap.size + 1) (.loop { rc .done (some c) with state := .exhausted }) (.inr rfl)
      exact ⟨some c, _, by rw [hrc] at hr ⊢; exact hr, hstop c k _ hk (Nat.le_trans hz hc.size) (hIx _ _ _ _ hi hz hc) ((World.putObj_heap_other (by omega)).trans hd)⟩
end Go.Proofs.Ytjgiiolamaimnaa
