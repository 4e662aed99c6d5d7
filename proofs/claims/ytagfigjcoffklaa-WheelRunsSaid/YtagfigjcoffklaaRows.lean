/-
  No cell of these rows narrows 'for every input' (looked for: loops, veiled, ifaces, maps, wideKeys, modest, calm, conditions, laid).
  DERIVED. THE GIVEN ROWS OF THIS SEAT. 7 by the template 'for every input the law returns true; each argument reads behind the call as it read before'; 0 by the template 'total and deterministic' (their statements: YtagfigjcoffklaaTotals.lean).
  GIVEN WITH THE SEED: the statements are not yours to turn. If you find one false, say at which input.
  Laid BY PROGRAM, IN A SANDBOX (cutbox-rows.mjs): the forced cells as the released guide's own fill.sh prints them over the translation 7d0393741c5cab63… (all of the seat's roots in one cut). By AI agents, Wed Nov 11 2026. No macro, syntax, notation, axiom, sorry.
-/
import Derived.Test.YtagfigjcoffklaaChecked
import GoSem.Claim
import GoSem.ClaimJoined
import GoSem.ClaimMapViews
import Derived.JoinedTies
import Derived.KernelRfl
namespace Go.Proofs.Ytagfigjcoffklaa
/- THE CELL 'sum', in the pinned program and in every row, IS THE sha256 OF THE DUMP (.gsa) THAT YtagfigjcoffklaaProg.lean LOADS. Nothing in Lean hashes anything: it is a label: what it is worth is what the hold of that sum in a sandbox is worth. -/
noncomputable def Try.pinned : Pinned := { name := "ytagfigjcoffklaa", sum := "7d0393741c5cab63f61d5307b429c16e7c31c27c200e9d0475bcfee669662041", checked := Try.checked }
namespace Rows
def none {H : Type} : Left H := { results := [], args := [] }

/-- 'cloisterlaw22.WheelNames': WHATEVER THE INPUT: true; the input reads as it did. -/
def wheelNamesSpec : ChangeSpec := { name := "wheelNames", fn := fun _ => fun
  | [] => { results := [.lit (.bool true)], args := [] }
  | _ => none }
def wheelNamesRow : OpenClaim := { program := "ytagfigjcoffklaa", sum := "7d0393741c5cab63f61d5307b429c16e7c31c27c200e9d0475bcfee669662041", func := "cloister/cloisterlaw22.WheelNames", spec := "wheelNames", apart := false }
def WheelNamesSaid : Prop := wheelNamesRow.holds Try.pinned (OpenSpec.ofChange wheelNamesSpec)

/-- ITS FALSE NEIGHBOUR: 'it returns false'. Refute it at one input. -/
def wheelNamesWrong : ChangeSpec := { name := "wheelNames", fn := fun _ => fun
  | [] => { results := [.lit (.bool false)], args := [] }
  | _ => none }
def WheelNamesWrongFalsely : Prop := wheelNamesRow.holds Try.pinned (OpenSpec.ofChange wheelNamesWrong)

/-- 'cloisterlaw22.WheelUntils': WHATEVER THE INPUT: true; the input reads as it did. -/
def wheelUntilsSpec : ChangeSpec := { name := "wheelUntils", fn := fun _ => fun
  | [d1, d2, d3, d4] => { results := [.lit (.bool true)], args := [d1, d2, d3, d4] }
  | _ => none }
def wheelUntilsRow : OpenClaim := { program := "ytagfigjcoffklaa", sum := "7d0393741c5cab63f61d5307b429c16e7c31c27c200e9d0475bcfee669662041", func := "cloister/cloisterlaw22.WheelUntils", spec := "wheelUntils", apart := false }
def WheelUntilsSaid : Prop := wheelUntilsRow.holds Try.pinned (OpenSpec.ofChange wheelUntilsSpec)

/-- ITS FALSE NEIGHBOUR: 'it returns false'. Refute it at one input. -/
def wheelUntilsWrong : ChangeSpec := { name := "wheelUntils", fn := fun _ => fun
  | [d1, d2, d3, d4] => { results := [.lit (.bool false)], args := [d1, d2, d3, d4] }
  | _ => none }
def WheelUntilsWrongFalsely : Prop := wheelUntilsRow.holds Try.pinned (OpenSpec.ofChange wheelUntilsWrong)

/-- 'cloisterlaw22.WheelServes': WHATEVER THE INPUT: true; the input reads as it did. -/
def wheelServesSpec : ChangeSpec := { name := "wheelServes", fn := fun _ => fun
  | [d1, d2, d3] => { results := [.lit (.bool true)], args := [d1, d2, d3] }
  | _ => none }
def wheelServesRow : OpenClaim := { program := "ytagfigjcoffklaa", sum := "7d0393741c5cab63f61d5307b429c16e7c31c27c200e9d0475bcfee669662041", func := "cloister/cloisterlaw22.WheelServes", spec := "wheelServes", apart := false }
def WheelServesSaid : Prop := wheelServesRow.holds Try.pinned (OpenSpec.ofChange wheelServesSpec)

/-- ITS FALSE NEIGHBOUR: 'it returns false'. Refute it at one input. -/
def wheelServesWrong : ChangeSpec := { name := "wheelServes", fn := fun _ => fun
  | [d1, d2, d3] => { results := [.lit (.bool false)], args := [d1, d2, d3] }
  | _ => none }
def WheelServesWrongFalsely : Prop := wheelServesRow.holds Try.pinned (OpenSpec.ofChange wheelServesWrong)

/-- 'cloisterlaw22.WheelCounts': WHATEVER THE INPUT: true; the input reads as it did. -/
def wheelCountsSpec : ChangeSpec := { name := "wheelCounts", fn := fun _ => fun
  | [d1, d2, d3, d4] => { results := [.lit (.bool true)], args := [d1, d2, d3, d4] }
  | _ => none }
def wheelCountsRow : OpenClaim := { program := "ytagfigjcoffklaa", sum := "7d0393741c5cab63f61d5307b429c16e7c31c27c200e9d0475bcfee669662041", func := "cloister/cloisterlaw22.WheelCounts", spec := "wheelCounts", apart := false }
def WheelCountsSaid : Prop := wheelCountsRow.holds Try.pinned (OpenSpec.ofChange wheelCountsSpec)

/-- ITS FALSE NEIGHBOUR: 'it returns false'. Refute it at one input. -/
def wheelCountsWrong : ChangeSpec := { name := "wheelCounts", fn := fun _ => fun
  | [d1, d2, d3, d4] => { results := [.lit (.bool false)], args := [d1, d2, d3, d4] }
  | _ => none }
def WheelCountsWrongFalsely : Prop := wheelCountsRow.holds Try.pinned (OpenSpec.ofChange wheelCountsWrong)

/-- 'cloisterlaw22.WheelSums': WHATEVER THE INPUT: true; the input reads as it did. -/
def wheelSumsSpec : ChangeSpec := { name := "wheelSums", fn := fun _ => fun
  | [d1, d2, d3, d4] => { results := [.lit (.bool true)], args := [d1, d2, d3, d4] }
  | _ => none }
def wheelSumsRow : OpenClaim := { program := "ytagfigjcoffklaa", sum := "7d0393741c5cab63f61d5307b429c16e7c31c27c200e9d0475bcfee669662041", func := "cloister/cloisterlaw22.WheelSums", spec := "wheelSums", apart := false }
def WheelSumsSaid : Prop := wheelSumsRow.holds Try.pinned (OpenSpec.ofChange wheelSumsSpec)

/-- ITS FALSE NEIGHBOUR: 'it returns false'. Refute it at one input. -/
def wheelSumsWrong : ChangeSpec := { name := "wheelSums", fn := fun _ => fun
  | [d1, d2, d3, d4] => { results := [.lit (.bool false)], args := [d1, d2, d3, d4] }
  | _ => none }
def WheelSumsWrongFalsely : Prop := wheelSumsRow.holds Try.pinned (OpenSpec.ofChange wheelSumsWrong)

/-- 'cloisterlaw22.WheelRuns': WHATEVER THE INPUT: true; the input reads as it did. -/
def wheelRunsSpec : ChangeSpec := { name := "wheelRuns", fn := fun _ => fun
  | [d1, d2, d3] => { results := [.lit (.bool true)], args := [d1, d2, d3] }
  | _ => none }
def wheelRunsRow : OpenClaim := { program := "ytagfigjcoffklaa", sum := "7d0393741c5cab63f61d5307b429c16e7c31c27c200e9d0475bcfee669662041", func := "cloister/cloisterlaw22.WheelRuns", spec := "wheelRuns", apart := false }
def WheelRunsSaid : Prop := wheelRunsRow.holds Try.pinned (OpenSpec.ofChange wheelRunsSpec)

/-- ITS FALSE NEIGHBOUR: 'it returns false'. Refute it at one input. -/
def wheelRunsWrong : ChangeSpec := { name := "wheelRuns", fn := fun _ => fun
  | [d1, d2, d3] => { results := [.lit (.bool false)], args := [d1, d2, d3] }
  | _ => none }
def WheelRunsWrongFalsely : Prop := wheelRunsRow.holds Try.pinned (OpenSpec.ofChange wheelRunsWrong)

/-- 'cloisterlaw22.WheelNone': WHATEVER THE INPUT: true; the input reads as it did. -/
def wheelNoneSpec : ChangeSpec := { name := "wheelNone", fn := fun _ => fun
  | [] => { results := [.lit (.bool true)], args := [] }
  | _ => none }
def wheelNoneRow : OpenClaim := { program := "ytagfigjcoffklaa", sum := "7d0393741c5cab63f61d5307b429c16e7c31c27c200e9d0475bcfee669662041", func := "cloister/cloisterlaw22.WheelNone", spec := "wheelNone", apart := false }
def WheelNoneSaid : Prop := wheelNoneRow.holds Try.pinned (OpenSpec.ofChange wheelNoneSpec)

/-- ITS FALSE NEIGHBOUR: 'it returns false'. Refute it at one input. -/
def wheelNoneWrong : ChangeSpec := { name := "wheelNone", fn := fun _ => fun
  | [] => { results := [.lit (.bool false)], args := [] }
  | _ => none }
def WheelNoneWrongFalsely : Prop := wheelNoneRow.holds Try.pinned (OpenSpec.ofChange wheelNoneWrong)

/- THE SECOND FORM. 'bulk': how many values and letters a reading holds, each counted each time it is reached (what is shared counts as often as it is met; a slice's spare places count too). A statement '..UptoSaid' is the law's where the arguments, and the package variables that the reading takes, are together of bulk at most 1048576: NARROWER than '..Said'. Prove '..Said' where nothing that the law and all that it calls make is longer than what came in: it says more and counts as full. Else prove '..UptoSaid'. A law counts once. -/
mutual
def uptoBulk {H : Type} : DataW H → Nat
  | .lit (.string bytes) => bytes.length + 1
  | .lit _ => 1
  | .nil => 1
  | .ptr d => uptoBulk d + 1
  | .slice elems spare => uptoBulkAll elems + uptoBulkAll spare + 1
  | .agg parts => uptoBulkAll parts + 1
  | .iface _ d => uptoBulk d + 1
  | .map entries => uptoBulkEntries entries + 1
  | .held _ => 1
def uptoBulkAll {H : Type} : List (DataW H) → Nat
  | [] => 0
  | d :: r => uptoBulk d + uptoBulkAll r
def uptoBulkEntries {H : Type} : List (Lit × DataW H) → Nat
  | [] => 0
  | x :: r => uptoBulkEntry x + uptoBulkEntries r
def uptoBulkEntry {H : Type} : Lit × DataW H → Nat
  | (.string bytes, d) => bytes.length + uptoBulk d + 1
  | (_, d) => uptoBulk d + 1
 end
def uptoSmall : (H : Type) → List (DataW H) → Bool := fun _ ds => decide (uptoBulkAll ds ≤ 1048576)
def OpenSpec.upto (s : _root_.Go.ChangeSpec) : _root_.Go.OpenSpec := { _root_.Go.OpenSpec.ofChange s with cond := some uptoSmall }

/-- 'cloisterlaw22.WheelNames', WHERE WHAT IT READS IS OF BULK AT MOST 1048576: true; the input reads as it did. -/
def wheelNamesUptoRow : OpenClaim := { program := "ytagfigjcoffklaa", sum := "7d0393741c5cab63f61d5307b429c16e7c31c27c200e9d0475bcfee669662041", func := "cloister/cloisterlaw22.WheelNames", spec := "wheelNames", apart := false, narrowed := true }
def WheelNamesUptoSaid : Prop := wheelNamesUptoRow.holds Try.pinned (OpenSpec.upto wheelNamesSpec)

/-- 'cloisterlaw22.WheelUntils', WHERE WHAT IT READS IS OF BULK AT MOST 1048576: true; the input reads as it did. -/
def wheelUntilsUptoRow : OpenClaim := { program := "ytagfigjcoffklaa", sum := "7d0393741c5cab63f61d5307b429c16e7c31c27c200e9d0475bcfee669662041", func := "cloister/cloisterlaw22.WheelUntils", spec := "wheelUntils", apart := false, narrowed := true }
def WheelUntilsUptoSaid : Prop := wheelUntilsUptoRow.holds Try.pinned (OpenSpec.upto wheelUntilsSpec)

/-- 'cloisterlaw22.WheelServes', WHERE WHAT IT READS IS OF BULK AT MOST 1048576: true; the input reads as it did. -/
def wheelServesUptoRow : OpenClaim := { program := "ytagfigjcoffklaa", sum := "7d0393741c5cab63f61d5307b429c16e7c31c27c200e9d0475bcfee669662041", func := "cloister/cloisterlaw22.WheelServes", spec := "wheelServes", apart := false, narrowed := true }
def WheelServesUptoSaid : Prop := wheelServesUptoRow.holds Try.pinned (OpenSpec.upto wheelServesSpec)

/-- 'cloisterlaw22.WheelCounts', WHERE WHAT IT READS IS OF BULK AT MOST 1048576: true; the input reads as it did. -/
def wheelCountsUptoRow : OpenClaim := { program := "ytagfigjcoffklaa", sum := "7d0393741c5cab63f61d5307b429c16e7c31c27c200e9d0475bcfee669662041", func := "cloister/cloisterlaw22.WheelCounts", spec := "wheelCounts", apart := false, narrowed := true }
def WheelCountsUptoSaid : Prop := wheelCountsUptoRow.holds Try.pinned (OpenSpec.upto wheelCountsSpec)

/-- 'cloisterlaw22.WheelSums', WHERE WHAT IT READS IS OF BULK AT MOST 1048576: true; the input reads as it did. -/
def wheelSumsUptoRow : OpenClaim := { program := "ytagfigjcoffklaa", sum := "7d0393741c5cab63f61d5307b429c16e7c31c27c200e9d0475bcfee669662041", func := "cloister/cloisterlaw22.WheelSums", spec := "wheelSums", apart := false, narrowed := true }
def WheelSumsUptoSaid : Prop := wheelSumsUptoRow.holds Try.pinned (OpenSpec.upto wheelSumsSpec)

/-- 'cloisterlaw22.WheelRuns', WHERE WHAT IT READS IS OF BULK AT MOST 1048576: true; the input reads as it did. -/
def wheelRunsUptoRow : OpenClaim := { program := "ytagfigjcoffklaa", sum := "7d0393741c5cab63f61d5307b429c16e7c31c27c200e9d0475bcfee669662041", func := "cloister/cloisterlaw22.WheelRuns", spec := "wheelRuns", apart := false, narrowed := true }
def WheelRunsUptoSaid : Prop := wheelRunsUptoRow.holds Try.pinned (OpenSpec.upto wheelRunsSpec)

/-- 'cloisterlaw22.WheelNone', WHERE WHAT IT READS IS OF BULK AT MOST 1048576: true; the input reads as it did. -/
def wheelNoneUptoRow : OpenClaim := { program := "ytagfigjcoffklaa", sum := "7d0393741c5cab63f61d5307b429c16e7c31c27c200e9d0475bcfee669662041", func := "cloister/cloisterlaw22.WheelNone", spec := "wheelNone", apart := false, narrowed := true }
def WheelNoneUptoSaid : Prop := wheelNoneUptoRow.holds Try.pinned (OpenSpec.upto wheelNoneSpec)

end Rows
end Go.Proofs.Ytagfigjcoffklaa
