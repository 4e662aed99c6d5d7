/- The loop over an iterator of two values, its frame told by the places. -/
import Derived.Test.YtjgiiolamaimnaaIter
namespace Go.Proofs.Ytjgiiolamaimnaa
open Go.RowKit
set_option linter.unusedVariables false
set_option linter.unusedSimpArgs false
/-- The frame in a round: both values in the parameters' places and in the variables' places. -/
def actOf (a : Act) (p q x y : Nat) (vals : Array Value) : Act :=
  { tmps := (((a.tmps.setIfInBounds p (vals.getD 0 undef)).setIfInBounds q (vals.getD 1 undef)).setIfInBounds x (vals.getD 0 undef)).setIfInBounds y (vals.getD 1 undef), defers := [] }
theorem range_law2 {P : Program} {m : Nat} {g : Operand} {ps : Array Tmp} {assign body : Code} {Q : Exit → Act → World → Prop} {a : Act} {w : World} {gf : Nat} {lb : Array Value}
    (p q x y : Nat) (hg : a.eval g = .func (.func gf) #[] lb) (eg : ∀ args w, (callFunc gf args).run P w = .ok (.enter gf args) w)
    {V : Nat → World → World → Array Value → Prop} {N : Nat} {Pq : Nat → Prop} (hseq : Iter P gf lb m V N Pq w) (hps : ∀ k W0 W1 vals, V k W0 W1 vals → vals.size = ps.size)
    (hV : ∀ k W0 A B vals, V k W0 A vals → w.heap.size + 2 ≤ W0.heap.size → Chg (bookF w) A B → V k W0 B vals) (hPq : ∀ q, Pq q → q < w.heap.size)
    (I : Nat → World → Prop) (Ix : Code → Nat → World → Prop) (hIs : ∀ k A B, I k A → Below A.heap.size A B → I k B) (hI : ∀ k A B, I k A → w.heap.size + 2 ≤ A.heap.size → Chg (bookF w) A B → I k B) (hIx : ∀ c k A B, Ix c k A → w.heap.size + 2 ≤ A.heap.size → Chg (bookF w) A B → Ix c k B)
    (h0 : I 0 w)
    (hassign : ∀ (l k : Nat) (W0 W : World) (vals : Array Value) (K : Act → World → Prop), V k W0 W vals → K (actOf a p q x y vals) W →
      assign.wpIn (Fence.wide.inRound l) m P (Exit.then K (fun _ _ _ => False)) { tmps := (ps.zip vals).foldl (fun t (p, v) => t.setIfInBounds p v) a.tmps, defers := [] } W)
    (hbody : ∀ (l k : Nat) (W0 W : World) (vals : Array Value), k < N → w.heap.size + 2 ≤ W0.heap.size → I k W0 → Chg (bookF w) W0 W → I k W → V k W0 W vals → body.wpIn (Fence.wide.inRound l) m P (roundTo w Pq I Ix k W) (actOf a p q x y vals) W)
    (hdone : ∀ W, w.heap.size + 2 ≤ W.heap.size → I N W → W.heap[w.heap.size]? = some (.deferred (some [])) → Q .normal { a with defers := { target := .collected w.heap.size, args := #[] } :: a.defers } W)
    (hstop : ∀ c k W, k ≤ N → w.heap.size + 2 ≤ W.heap.size → Ix c k W → W.heap[w.heap.size]? = some (.deferred (some [])) → c.wpIn Fence.wide (m + 2) P Q { a with defers := { target := .collected w.heap.size, args := #[] } :: a.defers } W) :
    (Code.rangeFunc g ps assign body).wpIn Fence.wide (m + 2) P Q a w :=
  range_law hg eg hseq hps hV hPq I Ix hIs hI hIx h0 (actOf a p q x y) hassign hbody hdone hstop
end Go.Proofs.Ytjgiiolamaimnaa
