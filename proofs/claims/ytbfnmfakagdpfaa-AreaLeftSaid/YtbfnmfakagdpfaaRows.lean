/-
  No cell of these rows narrows 'for every input' (looked for: loops, veiled, ifaces, maps, wideKeys, modest, calm, conditions, laid).
  DERIVED. THE GIVEN ROWS OF THIS SEAT. 7 by the template 'for every input the law returns true; each argument reads behind the call as it read before'; 0 by the template 'total and deterministic' (their statements: YtbfnmfakagdpfaaTotals.lean).
  GIVEN WITH THE SEED: the statements are not yours to turn. If you find one false, say at which input.
  Laid BY PROGRAM, IN A SANDBOX (cutbox-rows.mjs): the forced cells as the released guide's own fill.sh prints them over the translation 575633c54ab25a5e… (all of the seat's roots in one cut). By AI agents, Wed Nov 11 2026. No macro, syntax, notation, axiom, sorry.
-/
import Derived.Test.YtbfnmfakagdpfaaChecked
import GoSem.Claim
import GoSem.ClaimJoined
import GoSem.ClaimMapViews
import Derived.JoinedTies
import Derived.KernelRfl
namespace Go.Proofs.Ytbfnmfakagdpfaa
/- THE CELL 'sum', in the pinned program and in every row, IS THE sha256 OF THE DUMP (.gsa) THAT YtbfnmfakagdpfaaProg.lean LOADS. Nothing in Lean hashes anything: it is a label: what it is worth is what the hold of that sum in a sandbox is worth. -/
noncomputable def Try.pinned : Pinned := { name := "ytbfnmfakagdpfaa", sum := "575633c54ab25a5e5ba55d29961033ff91e3727d58c0ba583313f3cced8b975e", checked := Try.checked }
namespace Rows
def none {H : Type} : Left H := { results := [], args := [] }

/-- 'cloisterlaw07.AreaNames': WHATEVER THE INPUT: true; the input reads as it did. -/
def areaNamesSpec : ChangeSpec := { name := "areaNames", fn := fun _ => fun
  | [] => { results := [.lit (.bool true)], args := [] }
  | _ => none }
def areaNamesRow : OpenClaim := { program := "ytbfnmfakagdpfaa", sum := "575633c54ab25a5e5ba55d29961033ff91e3727d58c0ba583313f3cced8b975e", func := "cloister/cloisterlaw07.AreaNames", spec := "areaNames", apart := false }
def AreaNamesSaid : Prop := areaNamesRow.holds Try.pinned (OpenSpec.ofChange areaNamesSpec)

/-- ITS FALSE NEIGHBOUR: 'it returns false'. Refute it at one input. -/
def areaNamesWrong : ChangeSpec := { name := "areaNames", fn := fun _ => fun
  | [] => { results := [.lit (.bool false)], args := [] }
  | _ => none }
def AreaNamesWrongFalsely : Prop := areaNamesRow.holds Try.pinned (OpenSpec.ofChange areaNamesWrong)

/-- 'cloisterlaw07.AreaNone': WHATEVER THE INPUT: true; the input reads as it did. -/
def areaNoneSpec : ChangeSpec := { name := "areaNone", fn := fun _ => fun
  | [d] => { results := [.lit (.bool true)], args := [d] }
  | _ => none }
def areaNoneRow : OpenClaim := { program := "ytbfnmfakagdpfaa", sum := "575633c54ab25a5e5ba55d29961033ff91e3727d58c0ba583313f3cced8b975e", func := "cloister/cloisterlaw07.AreaNone", spec := "areaNone", apart := false }
def AreaNoneSaid : Prop := areaNoneRow.holds Try.pinned (OpenSpec.ofChange areaNoneSpec)

/-- ITS FALSE NEIGHBOUR: 'it returns false'. Refute it at one input. -/
def areaNoneWrong : ChangeSpec := { name := "areaNone", fn := fun _ => fun
  | [d] => { results := [.lit (.bool false)], args := [d] }
  | _ => none }
def AreaNoneWrongFalsely : Prop := areaNoneRow.holds Try.pinned (OpenSpec.ofChange areaNoneWrong)

/-- 'cloisterlaw07.AreaRuns': WHATEVER THE INPUT: true; the input reads as it did. -/
def areaRunsSpec : ChangeSpec := { name := "areaRuns", fn := fun _ => fun
  | [d] => { results := [.lit (.bool true)], args := [d] }
  | _ => none }
def areaRunsRow : OpenClaim := { program := "ytbfnmfakagdpfaa", sum := "575633c54ab25a5e5ba55d29961033ff91e3727d58c0ba583313f3cced8b975e", func := "cloister/cloisterlaw07.AreaRuns", spec := "areaRuns", apart := false }
def AreaRunsSaid : Prop := areaRunsRow.holds Try.pinned (OpenSpec.ofChange areaRunsSpec)

/-- ITS FALSE NEIGHBOUR: 'it returns false'. Refute it at one input. -/
def areaRunsWrong : ChangeSpec := { name := "areaRuns", fn := fun _ => fun
  | [d] => { results := [.lit (.bool false)], args := [d] }
  | _ => none }
def AreaRunsWrongFalsely : Prop := areaRunsRow.holds Try.pinned (OpenSpec.ofChange areaRunsWrong)

/-- 'cloisterlaw07.AreaBeside': WHATEVER THE INPUT: true; the input reads as it did. -/
def areaBesideSpec : ChangeSpec := { name := "areaBeside", fn := fun _ => fun
  | [d1, d2] => { results := [.lit (.bool true)], args := [d1, d2] }
  | _ => none }
def areaBesideRow : OpenClaim := { program := "ytbfnmfakagdpfaa", sum := "575633c54ab25a5e5ba55d29961033ff91e3727d58c0ba583313f3cced8b975e", func := "cloister/cloisterlaw07.AreaBeside", spec := "areaBeside", apart := false }
def AreaBesideSaid : Prop := areaBesideRow.holds Try.pinned (OpenSpec.ofChange areaBesideSpec)

/-- ITS FALSE NEIGHBOUR: 'it returns false'. Refute it at one input. -/
def areaBesideWrong : ChangeSpec := { name := "areaBeside", fn := fun _ => fun
  | [d1, d2] => { results := [.lit (.bool false)], args := [d1, d2] }
  | _ => none }
def AreaBesideWrongFalsely : Prop := areaBesideRow.holds Try.pinned (OpenSpec.ofChange areaBesideWrong)

/-- 'cloisterlaw07.AreaStays': WHATEVER THE INPUT: true; the input reads as it did. -/
def areaStaysSpec : ChangeSpec := { name := "areaStays", fn := fun _ => fun
  | [d1, d2] => { results := [.lit (.bool true)], args := [d1, d2] }
  | _ => none }
def areaStaysRow : OpenClaim := { program := "ytbfnmfakagdpfaa", sum := "575633c54ab25a5e5ba55d29961033ff91e3727d58c0ba583313f3cced8b975e", func := "cloister/cloisterlaw07.AreaStays", spec := "areaStays", apart := false }
def AreaStaysSaid : Prop := areaStaysRow.holds Try.pinned (OpenSpec.ofChange areaStaysSpec)

/-- ITS FALSE NEIGHBOUR: 'it returns false'. Refute it at one input. -/
def areaStaysWrong : ChangeSpec := { name := "areaStays", fn := fun _ => fun
  | [d1, d2] => { results := [.lit (.bool false)], args := [d1, d2] }
  | _ => none }
def AreaStaysWrongFalsely : Prop := areaStaysRow.holds Try.pinned (OpenSpec.ofChange areaStaysWrong)

/-- 'cloisterlaw07.AreaLeft': WHATEVER THE INPUT: true; the input reads as it did. -/
def areaLeftSpec : ChangeSpec := { name := "areaLeft", fn := fun _ => fun
  | [d1, d2, d3, d4] => { results := [.lit (.bool true)], args := [d1, d2, d3, d4] }
  | _ => none }
def areaLeftRow : OpenClaim := { program := "ytbfnmfakagdpfaa", sum := "575633c54ab25a5e5ba55d29961033ff91e3727d58c0ba583313f3cced8b975e", func := "cloister/cloisterlaw07.AreaLeft", spec := "areaLeft", apart := false }
def AreaLeftSaid : Prop := areaLeftRow.holds Try.pinned (OpenSpec.ofChange areaLeftSpec)

/-- ITS FALSE NEIGHBOUR: 'it returns false'. Refute it at one input. -/
def areaLeftWrong : ChangeSpec := { name := "areaLeft", fn := fun _ => fun
  | [d1, d2, d3, d4] => { results := [.lit (.bool false)], args := [d1, d2, d3, d4] }
  | _ => none }
def AreaLeftWrongFalsely : Prop := areaLeftRow.holds Try.pinned (OpenSpec.ofChange areaLeftWrong)

/-- 'cloisterlaw07.AreaKeeps': WHATEVER THE INPUT: true; the input reads as it did. -/
def areaKeepsSpec : ChangeSpec := { name := "areaKeeps", fn := fun _ => fun
  | [d1, d2, d3] => { results := [.lit (.bool true)], args := [d1, d2, d3] }
  | _ => none }
def areaKeepsRow : OpenClaim := { program := "ytbfnmfakagdpfaa", sum := "575633c54ab25a5e5ba55d29961033ff91e3727d58c0ba583313f3cced8b975e", func := "cloister/cloisterlaw07.AreaKeeps", spec := "areaKeeps", apart := false }
def AreaKeepsSaid : Prop := areaKeepsRow.holds Try.pinned (OpenSpec.ofChange areaKeepsSpec)

/-- ITS FALSE NEIGHBOUR: 'it returns false'. Refute it at one input. -/
def areaKeepsWrong : ChangeSpec := { name := "areaKeeps", fn := fun _ => fun
  | [d1, d2, d3] => { results := [.lit (.bool false)], args := [d1, d2, d3] }
  | _ => none }
def AreaKeepsWrongFalsely : Prop := areaKeepsRow.holds Try.pinned (OpenSpec.ofChange areaKeepsWrong)

/- THE SECOND FORM. 'bulk': how many values and letters a reading holds, each counted each time it is reached (what is shared counts as often as it is met; a slice's spare places count too). A statement '..UptoSaid' is the law's where the arguments, and the package variables that the reading takes, are together of bulk at most 1048576: NARROWER than '..Said'. Prove '..Said' where nothing that the law and all that it calls make is longer than what came in: it says more and counts as full. Else prove '..UptoSaid'. A law counts once. -/
mutual
def uptoBulk {H : Type} : DataW H → Nat
  | .lit (.string bytes) => bytes.length + 1
  | .lit _ => 1
  | .nil => 1
  | .ptr d => uptoBulk d + 1
  | .slice elems spare => uptoBulkAll elems + uptoBulkAll spare + 1
  | .agg parts => uptoBulkAll parts + 1
  | .iface _ d => uptoBulk d + 1
  | .map entries => uptoBulkEntries entries + 1
  | .held _ => 1
def uptoBulkAll {H : Type} : List (DataW H) → Nat
  | [] => 0
  | d :: r => uptoBulk d + uptoBulkAll r
def uptoBulkEntries {H : Type} : List (Lit × DataW H) → Nat
  | [] => 0
  | x :: r => uptoBulkEntry x + uptoBulkEntries r
def uptoBulkEntry {H : Type} : Lit × DataW H → Nat
  | (.string bytes, d) => bytes.length + uptoBulk d + 1
  | (_, d) => uptoBulk d + 1
 end
def uptoSmall : (H : Type) → List (DataW H) → Bool := fun _ ds => decide (uptoBulkAll ds ≤ 1048576)
def OpenSpec.upto (s : _root_.Go.ChangeSpec) : _root_.Go.OpenSpec := { _root_.Go.OpenSpec.ofChange s with cond := some uptoSmall }

/-- 'cloisterlaw07.AreaNames', WHERE WHAT IT READS IS OF BULK AT MOST 1048576: true; the input reads as it did. -/
def areaNamesUptoRow : OpenClaim := { program := "ytbfnmfakagdpfaa", sum := "575633c54ab25a5e5ba55d29961033ff91e3727d58c0ba583313f3cced8b975e", func := "cloister/cloisterlaw07.AreaNames", spec := "areaNames", apart := false, narrowed := true }
def AreaNamesUptoSaid : Prop := areaNamesUptoRow.holds Try.pinned (OpenSpec.upto areaNamesSpec)

/-- 'cloisterlaw07.AreaNone', WHERE WHAT IT READS IS OF BULK AT MOST 1048576: true; the input reads as it did. -/
def areaNoneUptoRow : OpenClaim := { program := "ytbfnmfakagdpfaa", sum := "575633c54ab25a5e5ba55d29961033ff91e3727d58c0ba583313f3cced8b975e", func := "cloister/cloisterlaw07.AreaNone", spec := "areaNone", apart := false, narrowed := true }
def AreaNoneUptoSaid : Prop := areaNoneUptoRow.holds Try.pinned (OpenSpec.upto areaNoneSpec)

/-- 'cloisterlaw07.AreaRuns', WHERE WHAT IT READS IS OF BULK AT MOST 1048576: true; the input reads as it did. -/
def areaRunsUptoRow : OpenClaim := { program := "ytbfnmfakagdpfaa", sum := "575633c54ab25a5e5ba55d29961033ff91e3727d58c0ba583313f3cced8b975e", func := "cloister/cloisterlaw07.AreaRuns", spec := "areaRuns", apart := false, narrowed := true }
def AreaRunsUptoSaid : Prop := areaRunsUptoRow.holds Try.pinned (OpenSpec.upto areaRunsSpec)

/-- 'cloisterlaw07.AreaBeside', WHERE WHAT IT READS IS OF BULK AT MOST 1048576: true; the input reads as it did. -/
def areaBesideUptoRow : OpenClaim := { program := "ytbfnmfakagdpfaa", sum := "575633c54ab25a5e5ba55d29961033ff91e3727d58c0ba583313f3cced8b975e", func := "cloister/cloisterlaw07.AreaBeside", spec := "areaBeside", apart := false, narrowed := true }
def AreaBesideUptoSaid : Prop := areaBesideUptoRow.holds Try.pinned (OpenSpec.upto areaBesideSpec)

/-- 'cloisterlaw07.AreaStays', WHERE WHAT IT READS IS OF BULK AT MOST 1048576: true; the input reads as it did. -/
def areaStaysUptoRow : OpenClaim := { program := "ytbfnmfakagdpfaa", sum := "575633c54ab25a5e5ba55d29961033ff91e3727d58c0ba583313f3cced8b975e", func := "cloister/cloisterlaw07.AreaStays", spec := "areaStays", apart := false, narrowed := true }
def AreaStaysUptoSaid : Prop := areaStaysUptoRow.holds Try.pinned (OpenSpec.upto areaStaysSpec)

/-- 'cloisterlaw07.AreaLeft', WHERE WHAT IT READS IS OF BULK AT MOST 1048576: true; the input reads as it did. -/
def areaLeftUptoRow : OpenClaim := { program := "ytbfnmfakagdpfaa", sum := "575633c54ab25a5e5ba55d29961033ff91e3727d58c0ba583313f3cced8b975e", func := "cloister/cloisterlaw07.AreaLeft", spec := "areaLeft", apart := false, narrowed := true }
def AreaLeftUptoSaid : Prop := areaLeftUptoRow.holds Try.pinned (OpenSpec.upto areaLeftSpec)

/-- 'cloisterlaw07.AreaKeeps', WHERE WHAT IT READS IS OF BULK AT MOST 1048576: true; the input reads as it did. -/
def areaKeepsUptoRow : OpenClaim := { program := "ytbfnmfakagdpfaa", sum := "575633c54ab25a5e5ba55d29961033ff91e3727d58c0ba583313f3cced8b975e", func := "cloister/cloisterlaw07.AreaKeeps", spec := "areaKeeps", apart := false, narrowed := true }
def AreaKeepsUptoSaid : Prop := areaKeepsUptoRow.holds Try.pinned (OpenSpec.upto areaKeepsSpec)

end Rows
end Go.Proofs.Ytbfnmfakagdpfaa
