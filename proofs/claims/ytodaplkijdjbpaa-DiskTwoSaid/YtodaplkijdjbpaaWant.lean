/- What the document answers to a step, of each kind. (printed by wip/gen_want.py) -/
import Derived.Test.YtodaplkijdjbpaaWanta
import Derived.Test.YtodaplkijdjbpaaWantb
import Derived.Test.YtodaplkijdjbpaaWantc
import Derived.Test.YtodaplkijdjbpaaWantd
namespace Go.Proofs.Ytodaplkijdjbpaa
open Go.RowKit
set_option linter.unusedVariables false
set_option linter.unusedSimpArgs false
theorem want_any {w : World} {A0 : Option Addr} {P : Pd} {F : Nat → Prop} {K L : Nat} {v : Value} {s : Ps} {A : Option Addr} (h : RAt w A0 P F) (hF : ∀ k, F k → k < w.heap.size) (hl : P.lim K) (hs : PsAt w v s A) (hk : K + s.p.length + 1 ≤ L) (hL : L ≤ 4294967296) (c0 : Nat) :
    Calls Try.prog 34 #[rV P A0 c0, v] w (WantTo (P.told s) (P.step s) F w) := by
  by_cases h0 : s.k = 0
  · exact want_0 h hF hl hs hk hL c0 h0
  by_cases h1 : s.k = 1
  · exact want_1 h hF hl hs hk hL c0 h1
  by_cases h2 : s.k = 2
  · exact want_2 h hF hl hs hk hL c0 h2
  by_cases h3 : s.k = 3
  · exact want_3 h hF hl hs hk hL c0 h3
  by_cases h4 : s.k = 4
  · exact want_4 h hF hl hs hk hL c0 h4
  by_cases h5 : s.k = 5
  · exact want_5 h hF hl hs hk hL c0 h5
  by_cases h6 : s.k = 6
  · exact want_6 h hF hl hs hk hL c0 h6
  by_cases h7 : s.k = 7
  · exact want_7 h hF hl hs hk hL c0 h7
  by_cases h8 : s.k = 8
  · exact want_8 h hF hl hs hk hL c0 h8
  by_cases h9 : s.k = 9
  · exact want_9 h hF hl hs hk hL c0 h9
  by_cases h10 : s.k = 10
  · exact want_10 h hF hl hs hk hL c0 h10
  exact want_X h hF hl hs hk hL c0 (by omega)
end Go.Proofs.Ytodaplkijdjbpaa
