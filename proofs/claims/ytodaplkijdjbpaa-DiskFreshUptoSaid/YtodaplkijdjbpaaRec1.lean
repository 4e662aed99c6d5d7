/- An argument that is a struct, opened. -/
import Derived.Test.YtodaplkijdjbpaaOpen
namespace Go.Proofs.Ytodaplkijdjbpaa
open Go.RowKit Go.ChangeShapes Go.WideShapes Go.ChangeAt
set_option linter.unusedVariables false
set_option linter.unusedSimpArgs false
theorem trod_rec {R : List Value → Prop} {H : Type} {enc : TypeId × Value → H} {P : Program} {W : World} {t : TypeId} {cs : Array Value} {d : DataW H} {ps : List MemPlace} {ts : List TypeId} {ds : List (DataW H)} {j : Nat}
    (hsz : (DataW.weightsEach P ts ds).all (· ≤ reachBytes) = true) (ht : ts[j]? = some t) (hd : ds[j]? = some d) (hO : Opn P W t R)
    (h : DataW.Trod enc P W 0 (fun _ => true) true t (.agg cs) d ps) : R cs.toList := by
  obtain ⟨fuel, hf⟩ := h
  exact hO H enc fuel _ d ps hf (weights_of hsz ht hd)
end Go.Proofs.Ytodaplkijdjbpaa
