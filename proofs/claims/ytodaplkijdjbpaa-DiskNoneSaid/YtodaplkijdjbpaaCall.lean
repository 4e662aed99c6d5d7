/- The law package's call. -/
import Derived.Test.YtodaplkijdjbpaaCall1
import Derived.Test.YtodaplkijdjbpaaCall2
import Derived.Test.YtodaplkijdjbpaaCall3
import Derived.Test.YtodaplkijdjbpaaCall4
import Derived.Test.YtodaplkijdjbpaaCall5
import Derived.Test.YtodaplkijdjbpaaCall6
import Derived.Test.YtodaplkijdjbpaaCall7
import Derived.Test.YtodaplkijdjbpaaCall8
import Derived.Test.YtodaplkijdjbpaaCall9
import Derived.Test.YtodaplkijdjbpaaCall10
import Derived.Test.YtodaplkijdjbpaaCallX
namespace Go.Proofs.Ytodaplkijdjbpaa
open Go.RowKit
set_option linter.unusedVariables false
set_option linter.unusedSimpArgs false
theorem call_any {w : World} {G pb K L : Nat} {ls : Nat → Loc} {P : Pd} {v : Value} {s : Ps} {A : Option Addr} (h : DAt w G pb ls P K) (hs : PsAt w v s A) (hA : s.f ≠ [] → ∀ k, blkO A = some k → k ≠ G ∧ k ≠ pb) (hk : K + s.p.length + 1 ≤ L) (hL : L ≤ 4294967296) :
    Calls Try.prog 16 #[.pointer (some ⟨G, 0, none⟩), v] w (CallTo w G pb ls P L s) := by
  by_cases h0 : s.k = 0
  · exact call_0 h hs hA hk hL h0
  by_cases h1 : s.k = 1
  · exact call_1 h hs hA hk hL h1
  by_cases h2 : s.k = 2
  · exact call_2 h hs hA hk hL h2
  by_cases h3 : s.k = 3
  · exact call_3 h hs hA hk hL h3
  by_cases h4 : s.k = 4
  · exact call_4 h hs hA hk hL h4
  by_cases h5 : s.k = 5
  · exact call_5 h hs hA hk hL h5
  by_cases h6 : s.k = 6
  · exact call_6 h hs hA hk hL h6
  by_cases h7 : s.k = 7
  · exact call_7 h hs hA hk hL h7
  by_cases h8 : s.k = 8
  · exact call_8 h hs hA hk hL h8
  by_cases h9 : s.k = 9
  · exact call_9 h hs hA hk hL h9
  by_cases h10 : s.k = 10
  · exact call_10 h hs hA hk hL h10
  exact call_X h hs (by omega) (by omega)
end Go.Proofs.Ytodaplkijdjbpaa
