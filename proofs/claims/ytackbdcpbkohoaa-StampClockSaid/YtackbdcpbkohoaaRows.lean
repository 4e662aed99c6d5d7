/-
  No cell of these rows narrows 'for every input' (looked for: loops, veiled, ifaces, maps, wideKeys, modest, calm, conditions, laid).
  DERIVED. THE GIVEN ROWS OF THIS SEAT. 7 by the template 'for every input the law returns true; each argument reads behind the call as it read before'; 0 by the template 'total and deterministic' (their statements: YtackbdcpbkohoaaTotals.lean).
  GIVEN WITH THE SEED: the statements are not yours to turn. If you find one false, say at which input.
  Laid BY PROGRAM, IN A SANDBOX (cutbox-rows.mjs): the forced cells as the released guide's own fill.sh prints them over the translation 5e9f7fc93880157b… (all of the seat's roots in one cut). By AI agents, Wed Nov 11 2026. No macro, syntax, notation, axiom, sorry.
-/
import Derived.Test.YtackbdcpbkohoaaChecked
import GoSem.Claim
import GoSem.ClaimJoined
import GoSem.ClaimMapViews
import Derived.JoinedTies
import Derived.KernelRfl
namespace Go.Proofs.Ytackbdcpbkohoaa
/- THE CELL 'sum', in the pinned program and in every row, IS THE sha256 OF THE DUMP (.gsa) THAT YtackbdcpbkohoaaProg.lean LOADS. Nothing in Lean hashes anything: it is a label: what it is worth is what the hold of that sum in a sandbox is worth. -/
noncomputable def Try.pinned : Pinned := { name := "ytackbdcpbkohoaa", sum := "5e9f7fc93880157b89e6e2e0804b7cc3653d34381d4e29bde3645fe6daf97136", checked := Try.checked }
namespace Rows
def none {H : Type} : Left H := { results := [], args := [] }

/-- 'cloisterlaw12.StampBelow': WHATEVER THE INPUT: true; the input reads as it did. -/
def stampBelowSpec : ChangeSpec := { name := "stampBelow", fn := fun _ => fun
  | [d1, d2] => { results := [.lit (.bool true)], args := [d1, d2] }
  | _ => none }
def stampBelowRow : OpenClaim := { program := "ytackbdcpbkohoaa", sum := "5e9f7fc93880157b89e6e2e0804b7cc3653d34381d4e29bde3645fe6daf97136", func := "cloister/cloisterlaw12.StampBelow", spec := "stampBelow", apart := false }
def StampBelowSaid : Prop := stampBelowRow.holds Try.pinned (OpenSpec.ofChange stampBelowSpec)

/-- ITS FALSE NEIGHBOUR: 'it returns false'. Refute it at one input. -/
def stampBelowWrong : ChangeSpec := { name := "stampBelow", fn := fun _ => fun
  | [d1, d2] => { results := [.lit (.bool false)], args := [d1, d2] }
  | _ => none }
def StampBelowWrongFalsely : Prop := stampBelowRow.holds Try.pinned (OpenSpec.ofChange stampBelowWrong)

/-- 'cloisterlaw12.StampOrder': WHATEVER THE INPUT: true; the input reads as it did. -/
def stampOrderSpec : ChangeSpec := { name := "stampOrder", fn := fun _ => fun
  | [d1, d2, d3] => { results := [.lit (.bool true)], args := [d1, d2, d3] }
  | _ => none }
def stampOrderRow : OpenClaim := { program := "ytackbdcpbkohoaa", sum := "5e9f7fc93880157b89e6e2e0804b7cc3653d34381d4e29bde3645fe6daf97136", func := "cloister/cloisterlaw12.StampOrder", spec := "stampOrder", apart := false }
def StampOrderSaid : Prop := stampOrderRow.holds Try.pinned (OpenSpec.ofChange stampOrderSpec)

/-- ITS FALSE NEIGHBOUR: 'it returns false'. Refute it at one input. -/
def stampOrderWrong : ChangeSpec := { name := "stampOrder", fn := fun _ => fun
  | [d1, d2, d3] => { results := [.lit (.bool false)], args := [d1, d2, d3] }
  | _ => none }
def StampOrderWrongFalsely : Prop := stampOrderRow.holds Try.pinned (OpenSpec.ofChange stampOrderWrong)

/-- 'cloisterlaw12.StampRises': WHATEVER THE INPUT: true; the input reads as it did. -/
def stampRisesSpec : ChangeSpec := { name := "stampRises", fn := fun _ => fun
  | [d1, d2] => { results := [.lit (.bool true)], args := [d1, d2] }
  | _ => none }
def stampRisesRow : OpenClaim := { program := "ytackbdcpbkohoaa", sum := "5e9f7fc93880157b89e6e2e0804b7cc3653d34381d4e29bde3645fe6daf97136", func := "cloister/cloisterlaw12.StampRises", spec := "stampRises", apart := false }
def StampRisesSaid : Prop := stampRisesRow.holds Try.pinned (OpenSpec.ofChange stampRisesSpec)

/-- ITS FALSE NEIGHBOUR: 'it returns false'. Refute it at one input. -/
def stampRisesWrong : ChangeSpec := { name := "stampRises", fn := fun _ => fun
  | [d1, d2] => { results := [.lit (.bool false)], args := [d1, d2] }
  | _ => none }
def StampRisesWrongFalsely : Prop := stampRisesRow.holds Try.pinned (OpenSpec.ofChange stampRisesWrong)

/-- 'cloisterlaw12.StampClock': WHATEVER THE INPUT: true; the input reads as it did. -/
def stampClockSpec : ChangeSpec := { name := "stampClock", fn := fun _ => fun
  | [d] => { results := [.lit (.bool true)], args := [d] }
  | _ => none }
def stampClockRow : OpenClaim := { program := "ytackbdcpbkohoaa", sum := "5e9f7fc93880157b89e6e2e0804b7cc3653d34381d4e29bde3645fe6daf97136", func := "cloister/cloisterlaw12.StampClock", spec := "stampClock", apart := false }
def StampClockSaid : Prop := stampClockRow.holds Try.pinned (OpenSpec.ofChange stampClockSpec)

/-- ITS FALSE NEIGHBOUR: 'it returns false'. Refute it at one input. -/
def stampClockWrong : ChangeSpec := { name := "stampClock", fn := fun _ => fun
  | [d] => { results := [.lit (.bool false)], args := [d] }
  | _ => none }
def StampClockWrongFalsely : Prop := stampClockRow.holds Try.pinned (OpenSpec.ofChange stampClockWrong)

/-- 'cloisterlaw12.StampTake': WHATEVER THE INPUT: true; the input reads as it did. -/
def stampTakeSpec : ChangeSpec := { name := "stampTake", fn := fun _ => fun
  | [d1, d2] => { results := [.lit (.bool true)], args := [d1, d2] }
  | _ => none }
def stampTakeRow : OpenClaim := { program := "ytackbdcpbkohoaa", sum := "5e9f7fc93880157b89e6e2e0804b7cc3653d34381d4e29bde3645fe6daf97136", func := "cloister/cloisterlaw12.StampTake", spec := "stampTake", apart := false }
def StampTakeSaid : Prop := stampTakeRow.holds Try.pinned (OpenSpec.ofChange stampTakeSpec)

/-- ITS FALSE NEIGHBOUR: 'it returns false'. Refute it at one input. -/
def stampTakeWrong : ChangeSpec := { name := "stampTake", fn := fun _ => fun
  | [d1, d2] => { results := [.lit (.bool false)], args := [d1, d2] }
  | _ => none }
def StampTakeWrongFalsely : Prop := stampTakeRow.holds Try.pinned (OpenSpec.ofChange stampTakeWrong)

/-- 'cloisterlaw12.StampGrows': WHATEVER THE INPUT: true; the input reads as it did. -/
def stampGrowsSpec : ChangeSpec := { name := "stampGrows", fn := fun _ => fun
  | [d1, d2, d3] => { results := [.lit (.bool true)], args := [d1, d2, d3] }
  | _ => none }
def stampGrowsRow : OpenClaim := { program := "ytackbdcpbkohoaa", sum := "5e9f7fc93880157b89e6e2e0804b7cc3653d34381d4e29bde3645fe6daf97136", func := "cloister/cloisterlaw12.StampGrows", spec := "stampGrows", apart := false }
def StampGrowsSaid : Prop := stampGrowsRow.holds Try.pinned (OpenSpec.ofChange stampGrowsSpec)

/-- ITS FALSE NEIGHBOUR: 'it returns false'. Refute it at one input. -/
def stampGrowsWrong : ChangeSpec := { name := "stampGrows", fn := fun _ => fun
  | [d1, d2, d3] => { results := [.lit (.bool false)], args := [d1, d2, d3] }
  | _ => none }
def StampGrowsWrongFalsely : Prop := stampGrowsRow.holds Try.pinned (OpenSpec.ofChange stampGrowsWrong)

/-- 'cloisterlaw12.StampLeaves': WHATEVER THE INPUT: true; the input reads as it did. -/
def stampLeavesSpec : ChangeSpec := { name := "stampLeaves", fn := fun _ => fun
  | [d1, d2] => { results := [.lit (.bool true)], args := [d1, d2] }
  | _ => none }
def stampLeavesRow : OpenClaim := { program := "ytackbdcpbkohoaa", sum := "5e9f7fc93880157b89e6e2e0804b7cc3653d34381d4e29bde3645fe6daf97136", func := "cloister/cloisterlaw12.StampLeaves", spec := "stampLeaves", apart := false }
def StampLeavesSaid : Prop := stampLeavesRow.holds Try.pinned (OpenSpec.ofChange stampLeavesSpec)

/-- ITS FALSE NEIGHBOUR: 'it returns false'. Refute it at one input. -/
def stampLeavesWrong : ChangeSpec := { name := "stampLeaves", fn := fun _ => fun
  | [d1, d2] => { results := [.lit (.bool false)], args := [d1, d2] }
  | _ => none }
def StampLeavesWrongFalsely : Prop := stampLeavesRow.holds Try.pinned (OpenSpec.ofChange stampLeavesWrong)

/- THE SECOND FORM. 'bulk': how many values and letters a reading holds, each counted each time it is reached (what is shared counts as often as it is met; a slice's spare places count too). A statement '..UptoSaid' is the law's where the arguments, and the package variables that the reading takes, are together of bulk at most 1048576: NARROWER than '..Said'. Prove '..Said' where nothing that the law and all that it calls make is longer than what came in: it says more and counts as full. Else prove '..UptoSaid'. A law counts once. -/
mutual
def uptoBulk {H : Type} : DataW H → Nat
  | .lit (.string bytes) => bytes.length + 1
  | .lit _ => 1
  | .nil => 1
  | .ptr d => uptoBulk d + 1
  | .slice elems spare => uptoBulkAll elems + uptoBulkAll spare + 1
  | .agg parts => uptoBulkAll parts + 1
  | .iface _ d => uptoBulk d + 1
  | .map entries => uptoBulkEntries entries + 1
  | .held _ => 1
def uptoBulkAll {H : Type} : List (DataW H) → Nat
  | [] => 0
  | d :: r => uptoBulk d + uptoBulkAll r
def uptoBulkEntries {H : Type} : List (Lit × DataW H) → Nat
  | [] => 0
  | x :: r => uptoBulkEntry x + uptoBulkEntries r
def uptoBulkEntry {H : Type} : Lit × DataW H → Nat
  | (.string bytes, d) => bytes.length + uptoBulk d + 1
  | (_, d) => uptoBulk d + 1
 end
def uptoSmall : (H : Type) → List (DataW H) → Bool := fun _ ds => decide (uptoBulkAll ds ≤ 1048576)
def OpenSpec.upto (s : _root_.Go.ChangeSpec) : _root_.Go.OpenSpec := { _root_.Go.OpenSpec.ofChange s with cond := some uptoSmall }

/-- 'cloisterlaw12.StampBelow', WHERE WHAT IT READS IS OF BULK AT MOST 1048576: true; the input reads as it did. -/
def stampBelowUptoRow : OpenClaim := { program := "ytackbdcpbkohoaa", sum := "5e9f7fc93880157b89e6e2e0804b7cc3653d34381d4e29bde3645fe6daf97136", func := "cloister/cloisterlaw12.StampBelow", spec := "stampBelow", apart := false, narrowed := true }
def StampBelowUptoSaid : Prop := stampBelowUptoRow.holds Try.pinned (OpenSpec.upto stampBelowSpec)

/-- 'cloisterlaw12.StampOrder', WHERE WHAT IT READS IS OF BULK AT MOST 1048576: true; the input reads as it did. -/
def stampOrderUptoRow : OpenClaim := { program := "ytackbdcpbkohoaa", sum := "5e9f7fc93880157b89e6e2e0804b7cc3653d34381d4e29bde3645fe6daf97136", func := "cloister/cloisterlaw12.StampOrder", spec := "stampOrder", apart := false, narrowed := true }
def StampOrderUptoSaid : Prop := stampOrderUptoRow.holds Try.pinned (OpenSpec.upto stampOrderSpec)

/-- 'cloisterlaw12.StampRises', WHERE WHAT IT READS IS OF BULK AT MOST 1048576: true; the input reads as it did. -/
def stampRisesUptoRow : OpenClaim := { program := "ytackbdcpbkohoaa", sum := "5e9f7fc93880157b89e6e2e0804b7cc3653d34381d4e29bde3645fe6daf97136", func := "cloister/cloisterlaw12.StampRises", spec := "stampRises", apart := false, narrowed := true }
def StampRisesUptoSaid : Prop := stampRisesUptoRow.holds Try.pinned (OpenSpec.upto stampRisesSpec)

/-- 'cloisterlaw12.StampClock', WHERE WHAT IT READS IS OF BULK AT MOST 1048576: true; the input reads as it did. -/
def stampClockUptoRow : OpenClaim := { program := "ytackbdcpbkohoaa", sum := "5e9f7fc93880157b89e6e2e0804b7cc3653d34381d4e29bde3645fe6daf97136", func := "cloister/cloisterlaw12.StampClock", spec := "stampClock", apart := false, narrowed := true }
def StampClockUptoSaid : Prop := stampClockUptoRow.holds Try.pinned (OpenSpec.upto stampClockSpec)

/-- 'cloisterlaw12.StampTake', WHERE WHAT IT READS IS OF BULK AT MOST 1048576: true; the input reads as it did. -/
def stampTakeUptoRow : OpenClaim := { program := "ytackbdcpbkohoaa", sum := "5e9f7fc93880157b89e6e2e0804b7cc3653d34381d4e29bde3645fe6daf97136", func := "cloister/cloisterlaw12.StampTake", spec := "stampTake", apart := false, narrowed := true }
def StampTakeUptoSaid : Prop := stampTakeUptoRow.holds Try.pinned (OpenSpec.upto stampTakeSpec)

/-- 'cloisterlaw12.StampGrows', WHERE WHAT IT READS IS OF BULK AT MOST 1048576: true; the input reads as it did. -/
def stampGrowsUptoRow : OpenClaim := { program := "ytackbdcpbkohoaa", sum := "5e9f7fc93880157b89e6e2e0804b7cc3653d34381d4e29bde3645fe6daf97136", func := "cloister/cloisterlaw12.StampGrows", spec := "stampGrows", apart := false, narrowed := true }
def StampGrowsUptoSaid : Prop := stampGrowsUptoRow.holds Try.pinned (OpenSpec.upto stampGrowsSpec)

/-- 'cloisterlaw12.StampLeaves', WHERE WHAT IT READS IS OF BULK AT MOST 1048576: true; the input reads as it did. -/
def stampLeavesUptoRow : OpenClaim := { program := "ytackbdcpbkohoaa", sum := "5e9f7fc93880157b89e6e2e0804b7cc3653d34381d4e29bde3645fe6daf97136", func := "cloister/cloisterlaw12.StampLeaves", spec := "stampLeaves", apart := false, narrowed := true }
def StampLeavesUptoSaid : Prop := stampLeavesUptoRow.holds Try.pinned (OpenSpec.upto stampLeavesSpec)

end Rows
end Go.Proofs.Ytackbdcpbkohoaa
