/-
  No cell of these rows narrows 'for every input' (looked for: loops, veiled, ifaces, maps, wideKeys, modest, calm, conditions, laid).
  DERIVED. THE GIVEN ROWS OF THIS SEAT. 12 by the template 'for every input the law returns true; each argument reads behind the call as it read before'; 0 by the template 'total and deterministic' (their statements: YtjgiiolamaimnaaTotals.lean).
  GIVEN WITH THE SEED: the statements are not yours to turn. If you find one false, say at which input.
  Laid BY PROGRAM, IN A SANDBOX (cutbox-rows.mjs): the forced cells as the released guide's own fill.sh prints them over the translation c26c1bc7f8f8f135… (all of the seat's roots in one cut). By AI agents, Wed Nov 11 2026. No macro, syntax, notation, axiom, sorry.
-/
import Derived.Test.YtjgiiolamaimnaaChecked
import GoSem.Claim
import GoSem.ClaimJoined
import GoSem.ClaimMapViews
import Derived.JoinedTies
import Derived.KernelRfl
namespace Go.Proofs.Ytjgiiolamaimnaa
/- THE CELL 'sum', in the pinned program and in every row, IS THE sha256 OF THE DUMP (.gsa) THAT YtjgiiolamaimnaaProg.lean LOADS. Nothing in Lean hashes anything: it is a label: what it is worth is what the hold of that sum in a sandbox is worth. -/
noncomputable def Try.pinned : Pinned := { name := "ytjgiiolamaimnaa", sum := "c26c1bc7f8f8f1355b06dd36aee4d9b5a2a3dbb704702114acf5c3f346a65160", checked := Try.checked }
namespace Rows
def none {H : Type} : Left H := { results := [], args := [] }

/-- 'cloisterlaw09.FrameMake': WHATEVER THE INPUT: true; the input reads as it did. -/
def frameMakeSpec : ChangeSpec := { name := "frameMake", fn := fun _ => fun
  | [d] => { results := [.lit (.bool true)], args := [d] }
  | _ => none }
def frameMakeRow : OpenClaim := { program := "ytjgiiolamaimnaa", sum := "c26c1bc7f8f8f1355b06dd36aee4d9b5a2a3dbb704702114acf5c3f346a65160", func := "cloister/cloisterlaw09.FrameMake", spec := "frameMake", apart := false }
def FrameMakeSaid : Prop := frameMakeRow.holds Try.pinned (OpenSpec.ofChange frameMakeSpec)

/-- ITS FALSE NEIGHBOUR: 'it returns false'. Refute it at one input. -/
def frameMakeWrong : ChangeSpec := { name := "frameMake", fn := fun _ => fun
  | [d] => { results := [.lit (.bool false)], args := [d] }
  | _ => none }
def FrameMakeWrongFalsely : Prop := frameMakeRow.holds Try.pinned (OpenSpec.ofChange frameMakeWrong)

/-- 'cloisterlaw09.FrameLong': WHATEVER THE INPUT: true; the input reads as it did. -/
def frameLongSpec : ChangeSpec := { name := "frameLong", fn := fun _ => fun
  | [d1, d2] => { results := [.lit (.bool true)], args := [d1, d2] }
  | _ => none }
def frameLongRow : OpenClaim := { program := "ytjgiiolamaimnaa", sum := "c26c1bc7f8f8f1355b06dd36aee4d9b5a2a3dbb704702114acf5c3f346a65160", func := "cloister/cloisterlaw09.FrameLong", spec := "frameLong", apart := false }
def FrameLongSaid : Prop := frameLongRow.holds Try.pinned (OpenSpec.ofChange frameLongSpec)

/-- ITS FALSE NEIGHBOUR: 'it returns false'. Refute it at one input. -/
def frameLongWrong : ChangeSpec := { name := "frameLong", fn := fun _ => fun
  | [d1, d2] => { results := [.lit (.bool false)], args := [d1, d2] }
  | _ => none }
def FrameLongWrongFalsely : Prop := frameLongRow.holds Try.pinned (OpenSpec.ofChange frameLongWrong)

/-- 'cloisterlaw09.FrameRead': WHATEVER THE INPUT: true; the input reads as it did. -/
def frameReadSpec : ChangeSpec := { name := "frameRead", fn := fun _ => fun
  | [d] => { results := [.lit (.bool true)], args := [d] }
  | _ => none }
def frameReadRow : OpenClaim := { program := "ytjgiiolamaimnaa", sum := "c26c1bc7f8f8f1355b06dd36aee4d9b5a2a3dbb704702114acf5c3f346a65160", func := "cloister/cloisterlaw09.FrameRead", spec := "frameRead", unfollowed := true, recurses := true, apart := false }
def FrameReadSaid : Prop := frameReadRow.holds Try.pinned (OpenSpec.ofChange frameReadSpec)

/-- ITS FALSE NEIGHBOUR: 'it returns false'. Refute it at one input. -/
def frameReadWrong : ChangeSpec := { name := "frameRead", fn := fun _ => fun
  | [d] => { results := [.lit (.bool false)], args := [d] }
  | _ => none }
def FrameReadWrongFalsely : Prop := frameReadRow.holds Try.pinned (OpenSpec.ofChange frameReadWrong)

/-- 'cloisterlaw09.FrameBack': WHATEVER THE INPUT: true; the input reads as it did. -/
def frameBackSpec : ChangeSpec := { name := "frameBack", fn := fun _ => fun
  | [d1, d2] => { results := [.lit (.bool true)], args := [d1, d2] }
  | _ => none }
def frameBackRow : OpenClaim := { program := "ytjgiiolamaimnaa", sum := "c26c1bc7f8f8f1355b06dd36aee4d9b5a2a3dbb704702114acf5c3f346a65160", func := "cloister/cloisterlaw09.FrameBack", spec := "frameBack", unfollowed := true, recurses := true, apart := false }
def FrameBackSaid : Prop := frameBackRow.holds Try.pinned (OpenSpec.ofChange frameBackSpec)

/-- ITS FALSE NEIGHBOUR: 'it returns false'. Refute it at one input. -/
def frameBackWrong : ChangeSpec := { name := "frameBack", fn := fun _ => fun
  | [d1, d2] => { results := [.lit (.bool false)], args := [d1, d2] }
  | _ => none }
def FrameBackWrongFalsely : Prop := frameBackRow.holds Try.pinned (OpenSpec.ofChange frameBackWrong)

/-- 'cloisterlaw09.FrameForm': WHATEVER THE INPUT: true; the input reads as it did. -/
def frameFormSpec : ChangeSpec := { name := "frameForm", fn := fun _ => fun
  | [d] => { results := [.lit (.bool true)], args := [d] }
  | _ => none }
def frameFormRow : OpenClaim := { program := "ytjgiiolamaimnaa", sum := "c26c1bc7f8f8f1355b06dd36aee4d9b5a2a3dbb704702114acf5c3f346a65160", func := "cloister/cloisterlaw09.FrameForm", spec := "frameForm", unfollowed := true, recurses := true, apart := false }
def FrameFormSaid : Prop := frameFormRow.holds Try.pinned (OpenSpec.ofChange frameFormSpec)

/-- ITS FALSE NEIGHBOUR: 'it returns false'. Refute it at one input. -/
def frameFormWrong : ChangeSpec := { name := "frameForm", fn := fun _ => fun
  | [d] => { results := [.lit (.bool false)], args := [d] }
  | _ => none }
def FrameFormWrongFalsely : Prop := frameFormRow.holds Try.pinned (OpenSpec.ofChange frameFormWrong)

/-- 'cloisterlaw09.FrameCut': WHATEVER THE INPUT: true; the input reads as it did. -/
def frameCutSpec : ChangeSpec := { name := "frameCut", fn := fun _ => fun
  | [d1, d2] => { results := [.lit (.bool true)], args := [d1, d2] }
  | _ => none }
def frameCutRow : OpenClaim := { program := "ytjgiiolamaimnaa", sum := "c26c1bc7f8f8f1355b06dd36aee4d9b5a2a3dbb704702114acf5c3f346a65160", func := "cloister/cloisterlaw09.FrameCut", spec := "frameCut", unfollowed := true, recurses := true, apart := false }
def FrameCutSaid : Prop := frameCutRow.holds Try.pinned (OpenSpec.ofChange frameCutSpec)

/-- ITS FALSE NEIGHBOUR: 'it returns false'. Refute it at one input. -/
def frameCutWrong : ChangeSpec := { name := "frameCut", fn := fun _ => fun
  | [d1, d2] => { results := [.lit (.bool false)], args := [d1, d2] }
  | _ => none }
def FrameCutWrongFalsely : Prop := frameCutRow.holds Try.pinned (OpenSpec.ofChange frameCutWrong)

/-- 'cloisterlaw09.FrameTurned': WHATEVER THE INPUT: true; the input reads as it did. -/
def frameTurnedSpec : ChangeSpec := { name := "frameTurned", fn := fun _ => fun
  | [d1, d2, d3] => { results := [.lit (.bool true)], args := [d1, d2, d3] }
  | _ => none }
def frameTurnedRow : OpenClaim := { program := "ytjgiiolamaimnaa", sum := "c26c1bc7f8f8f1355b06dd36aee4d9b5a2a3dbb704702114acf5c3f346a65160", func := "cloister/cloisterlaw09.FrameTurned", spec := "frameTurned", unfollowed := true, recurses := true, apart := false }
def FrameTurnedSaid : Prop := frameTurnedRow.holds Try.pinned (OpenSpec.ofChange frameTurnedSpec)

/-- ITS FALSE NEIGHBOUR: 'it returns false'. Refute it at one input. -/
def frameTurnedWrong : ChangeSpec := { name := "frameTurned", fn := fun _ => fun
  | [d1, d2, d3] => { results := [.lit (.bool false)], args := [d1, d2, d3] }
  | _ => none }
def FrameTurnedWrongFalsely : Prop := frameTurnedRow.holds Try.pinned (OpenSpec.ofChange frameTurnedWrong)

/-- 'cloisterlaw09.FrameAll': WHATEVER THE INPUT: true; the input reads as it did. -/
def frameAllSpec : ChangeSpec := { name := "frameAll", fn := fun _ => fun
  | [d1, d2] => { results := [.lit (.bool true)], args := [d1, d2] }
  | _ => none }
def frameAllRow : OpenClaim := { program := "ytjgiiolamaimnaa", sum := "c26c1bc7f8f8f1355b06dd36aee4d9b5a2a3dbb704702114acf5c3f346a65160", func := "cloister/cloisterlaw09.FrameAll", spec := "frameAll", unfollowed := true, recurses := true, apart := false }
def FrameAllSaid : Prop := frameAllRow.holds Try.pinned (OpenSpec.ofChange frameAllSpec)

/-- ITS FALSE NEIGHBOUR: 'it returns false'. Refute it at one input. -/
def frameAllWrong : ChangeSpec := { name := "frameAll", fn := fun _ => fun
  | [d1, d2] => { results := [.lit (.bool false)], args := [d1, d2] }
  | _ => none }
def FrameAllWrongFalsely : Prop := frameAllRow.holds Try.pinned (OpenSpec.ofChange frameAllWrong)

/-- 'cloisterlaw09.FrameWhen': WHATEVER THE INPUT: true; the input reads as it did. -/
def frameWhenSpec : ChangeSpec := { name := "frameWhen", fn := fun _ => fun
  | [d1, d2] => { results := [.lit (.bool true)], args := [d1, d2] }
  | _ => none }
def frameWhenRow : OpenClaim := { program := "ytjgiiolamaimnaa", sum := "c26c1bc7f8f8f1355b06dd36aee4d9b5a2a3dbb704702114acf5c3f346a65160", func := "cloister/cloisterlaw09.FrameWhen", spec := "frameWhen", unfollowed := true, recurses := true, apart := false }
def FrameWhenSaid : Prop := frameWhenRow.holds Try.pinned (OpenSpec.ofChange frameWhenSpec)

/-- ITS FALSE NEIGHBOUR: 'it returns false'. Refute it at one input. -/
def frameWhenWrong : ChangeSpec := { name := "frameWhen", fn := fun _ => fun
  | [d1, d2] => { results := [.lit (.bool false)], args := [d1, d2] }
  | _ => none }
def FrameWhenWrongFalsely : Prop := frameWhenRow.holds Try.pinned (OpenSpec.ofChange frameWhenWrong)

/-- 'cloisterlaw09.FrameCount': WHATEVER THE INPUT: true; the input reads as it did. -/
def frameCountSpec : ChangeSpec := { name := "frameCount", fn := fun _ => fun
  | [d] => { results := [.lit (.bool true)], args := [d] }
  | _ => none }
def frameCountRow : OpenClaim := { program := "ytjgiiolamaimnaa", sum := "c26c1bc7f8f8f1355b06dd36aee4d9b5a2a3dbb704702114acf5c3f346a65160", func := "cloister/cloisterlaw09.FrameCount", spec := "frameCount", unfollowed := true, recurses := true, apart := false }
def FrameCountSaid : Prop := frameCountRow.holds Try.pinned (OpenSpec.ofChange frameCountSpec)

/-- ITS FALSE NEIGHBOUR: 'it returns false'. Refute it at one input. -/
def frameCountWrong : ChangeSpec := { name := "frameCount", fn := fun _ => fun
  | [d] => { results := [.lit (.bool false)], args := [d] }
  | _ => none }
def FrameCountWrongFalsely : Prop := frameCountRow.holds Try.pinned (OpenSpec.ofChange frameCountWrong)

/-- 'cloisterlaw09.FrameRow': WHATEVER THE INPUT: true; the input reads as it did. -/
def frameRowSpec : ChangeSpec := { name := "frameRow", fn := fun _ => fun
  | [d1, d2] => { results := [.lit (.bool true)], args := [d1, d2] }
  | _ => none }
def frameRowRow : OpenClaim := { program := "ytjgiiolamaimnaa", sum := "c26c1bc7f8f8f1355b06dd36aee4d9b5a2a3dbb704702114acf5c3f346a65160", func := "cloister/cloisterlaw09.FrameRow", spec := "frameRow", unfollowed := true, recurses := true, apart := false }
def FrameRowSaid : Prop := frameRowRow.holds Try.pinned (OpenSpec.ofChange frameRowSpec)

/-- ITS FALSE NEIGHBOUR: 'it returns false'. Refute it at one input. -/
def frameRowWrong : ChangeSpec := { name := "frameRow", fn := fun _ => fun
  | [d1, d2] => { results := [.lit (.bool false)], args := [d1, d2] }
  | _ => none }
def FrameRowWrongFalsely : Prop := frameRowRow.holds Try.pinned (OpenSpec.ofChange frameRowWrong)

/-- 'cloisterlaw09.FrameLeaves': WHATEVER THE INPUT: true; the input reads as it did. -/
def frameLeavesSpec : ChangeSpec := { name := "frameLeaves", fn := fun _ => fun
  | [d1, d2] => { results := [.lit (.bool true)], args := [d1, d2] }
  | _ => none }
def frameLeavesRow : OpenClaim := { program := "ytjgiiolamaimnaa", sum := "c26c1bc7f8f8f1355b06dd36aee4d9b5a2a3dbb704702114acf5c3f346a65160", func := "cloister/cloisterlaw09.FrameLeaves", spec := "frameLeaves", unfollowed := true, recurses := true, apart := false }
def FrameLeavesSaid : Prop := frameLeavesRow.holds Try.pinned (OpenSpec.ofChange frameLeavesSpec)

/-- ITS FALSE NEIGHBOUR: 'it returns false'. Refute it at one input. -/
def frameLeavesWrong : ChangeSpec := { name := "frameLeaves", fn := fun _ => fun
  | [d1, d2] => { results := [.lit (.bool false)], args := [d1, d2] }
  | _ => none }
def FrameLeavesWrongFalsely : Prop := frameLeavesRow.holds Try.pinned (OpenSpec.ofChange frameLeavesWrong)

/- THE SECOND FORM. 'bulk': how many values and letters a reading holds, each counted each time it is reached (what is shared counts as often as it is met; a slice's spare places count too). A statement '..UptoSaid' is the law's where the arguments, and the package variables that the reading takes, are together of bulk at most 1048576: NARROWER than '..Said'. Prove '..Said' where nothing that the law and all that it calls make is longer than what came in: it says more and counts as full. Else prove '..UptoSaid'. A law counts once. -/
mutual
def uptoBulk {H : Type} : DataW H → Nat
  | .lit (.string bytes) => bytes.length + 1
  | .lit _ => 1
  | .nil => 1
  | .ptr d => uptoBulk d + 1
  | .slice elems spare => uptoBulkAll elems + uptoBulkAll spare + 1
  | .agg parts => uptoBulkAll parts + 1
  | .iface _ d => uptoBulk d + 1
  | .map entries => uptoBulkEntries entries + 1
  | .held _ => 1
def uptoBulkAll {H : Type} : List (DataW H) → Nat
  | [] => 0
  | d :: r => uptoBulk d + uptoBulkAll r
def uptoBulkEntries {H : Type} : List (Lit × DataW H) → Nat
  | [] => 0
  | x :: r => uptoBulkEntry x + uptoBulkEntries r
def uptoBulkEntry {H : Type} : Lit × DataW H → Nat
  | (.string bytes, d) => bytes.length + uptoBulk d + 1
  | (_, d) => uptoBulk d + 1
 end
def uptoSmall : (H : Type) → List (DataW H) → Bool := fun _ ds => decide (uptoBulkAll ds ≤ 1048576)
def OpenSpec.upto (s : _root_.Go.ChangeSpec) : _root_.Go.OpenSpec := { _root_.Go.OpenSpec.ofChange s with cond := some uptoSmall }

/-- 'cloisterlaw09.FrameMake', WHERE WHAT IT READS IS OF BULK AT MOST 1048576: true; the input reads as it did. -/
def frameMakeUptoRow : OpenClaim := { program := "ytjgiiolamaimnaa", sum := "c26c1bc7f8f8f1355b06dd36aee4d9b5a2a3dbb704702114acf5c3f346a65160", func := "cloister/cloisterlaw09.FrameMake", spec := "frameMake", apart := false, narrowed := true }
def FrameMakeUptoSaid : Prop := frameMakeUptoRow.holds Try.pinned (OpenSpec.upto frameMakeSpec)

/-- 'cloisterlaw09.FrameLong', WHERE WHAT IT READS IS OF BULK AT MOST 1048576: true; the input reads as it did. -/
def frameLongUptoRow : OpenClaim := { program := "ytjgiiolamaimnaa", sum := "c26c1bc7f8f8f1355b06dd36aee4d9b5a2a3dbb704702114acf5c3f346a65160", func := "cloister/cloisterlaw09.FrameLong", spec := "frameLong", apart := false, narrowed := true }
def FrameLongUptoSaid : Prop := frameLongUptoRow.holds Try.pinned (OpenSpec.upto frameLongSpec)

/-- 'cloisterlaw09.FrameRead', WHERE WHAT IT READS IS OF BULK AT MOST 1048576: true; the input reads as it did. -/
def frameReadUptoRow : OpenClaim := { program := "ytjgiiolamaimnaa", sum := "c26c1bc7f8f8f1355b06dd36aee4d9b5a2a3dbb704702114acf5c3f346a65160", func := "cloister/cloisterlaw09.FrameRead", spec := "frameRead", unfollowed := true, recurses := true, apart := false, narrowed := true }
def FrameReadUptoSaid : Prop := frameReadUptoRow.holds Try.pinned (OpenSpec.upto frameReadSpec)

/-- 'cloisterlaw09.FrameBack', WHERE WHAT IT READS IS OF BULK AT MOST 1048576: true; the input reads as it did. -/
def frameBackUptoRow : OpenClaim := { program := "ytjgiiolamaimnaa", sum := "c26c1bc7f8f8f1355b06dd36aee4d9b5a2a3dbb704702114acf5c3f346a65160", func := "cloister/cloisterlaw09.FrameBack", spec := "frameBack", unfollowed := true, recurses := true, apart := false, narrowed := true }
def FrameBackUptoSaid : Prop := frameBackUptoRow.holds Try.pinned (OpenSpec.upto frameBackSpec)

/-- 'cloisterlaw09.FrameForm', WHERE WHAT IT READS IS OF BULK AT MOST 1048576: true; the input reads as it did. -/
def frameFormUptoRow : OpenClaim := { program := "ytjgiiolamaimnaa", sum := "c26c1bc7f8f8f1355b06dd36aee4d9b5a2a3dbb704702114acf5c3f346a65160", func := "cloister/cloisterlaw09.FrameForm", spec := "frameForm", unfollowed := true, recurses := true, apart := false, narrowed := true }
def FrameFormUptoSaid : Prop := frameFormUptoRow.holds Try.pinned (OpenSpec.upto frameFormSpec)

/-- 'cloisterlaw09.FrameCut', WHERE WHAT IT READS IS OF BULK AT MOST 1048576: true; the input reads as it did. -/
def frameCutUptoRow : OpenClaim := { program := "ytjgiiolamaimnaa", sum := "c26c1bc7f8f8f1355b06dd36aee4d9b5a2a3dbb704702114acf5c3f346a65160", func := "cloister/cloisterlaw09.FrameCut", spec := "frameCut", unfollowed := true, recurses := true, apart := false, narrowed := true }
def FrameCutUptoSaid : Prop := frameCutUptoRow.holds Try.pinned (OpenSpec.upto frameCutSpec)

/-- 'cloisterlaw09.FrameTurned', WHERE WHAT IT READS IS OF BULK AT MOST 1048576: true; the input reads as it did. -/
def frameTurnedUptoRow : OpenClaim := { program := "ytjgiiolamaimnaa", sum := "c26c1bc7f8f8f1355b06dd36aee4d9b5a2a3dbb704702114acf5c3f346a65160", func := "cloister/cloisterlaw09.FrameTurned", spec := "frameTurned", unfollowed := true, recurses := true, apart := false, narrowed := true }
def FrameTurnedUptoSaid : Prop := frameTurnedUptoRow.holds Try.pinned (OpenSpec.upto frameTurnedSpec)

/-- 'cloisterlaw09.FrameAll', WHERE WHAT IT READS IS OF BULK AT MOST 1048576: true; the input reads as it did. -/
def frameAllUptoRow : OpenClaim := { program := "ytjgiiolamaimnaa", sum := "c26c1bc7f8f8f1355b06dd36aee4d9b5a2a3dbb704702114acf5c3f346a65160", func := "cloister/cloisterlaw09.FrameAll", spec := "frameAll", unfollowed := true, recurses := true, apart := false, narrowed := true }
def FrameAllUptoSaid : Prop := frameAllUptoRow.holds Try.pinned (OpenSpec.upto frameAllSpec)

/-- 'cloisterlaw09.FrameWhen', WHERE WHAT IT READS IS OF BULK AT MOST 1048576: true; the input reads as it did. -/
def frameWhenUptoRow : OpenClaim := { program := "ytjgiiolamaimnaa", sum := "c26c1bc7f8f8f1355b06dd36aee4d9b5a2a3dbb704702114acf5c3f346a65160", func := "cloister/cloisterlaw09.FrameWhen", spec := "frameWhen", unfollowed := true, recurses := true, apart := false, narrowed := true }
def FrameWhenUptoSaid : Prop := frameWhenUptoRow.holds Try.pinned (OpenSpec.upto frameWhenSpec)

/-- 'cloisterlaw09.FrameCount', WHERE WHAT IT READS IS OF BULK AT MOST 1048576: true; the input reads as it did. -/
def frameCountUptoRow : OpenClaim := { program := "ytjgiiolamaimnaa", sum := "c26c1bc7f8f8f1355b06dd36aee4d9b5a2a3dbb704702114acf5c3f346a65160", func := "cloister/cloisterlaw09.FrameCount", spec := "frameCount", unfollowed := true, recurses := true, apart := false, narrowed := true }
def FrameCountUptoSaid : Prop := frameCountUptoRow.holds Try.pinned (OpenSpec.upto frameCountSpec)

/-- 'cloisterlaw09.FrameRow', WHERE WHAT IT READS IS OF BULK AT MOST 1048576: true; the input reads as it did. -/
def frameRowUptoRow : OpenClaim := { program := "ytjgiiolamaimnaa", sum := "c26c1bc7f8f8f1355b06dd36aee4d9b5a2a3dbb704702114acf5c3f346a65160", func := "cloister/cloisterlaw09.FrameRow", spec := "frameRow", unfollowed := true, recurses := true, apart := false, narrowed := true }
def FrameRowUptoSaid : Prop := frameRowUptoRow.holds Try.pinned (OpenSpec.upto frameRowSpec)

/-- 'cloisterlaw09.FrameLeaves', WHERE WHAT IT READS IS OF BULK AT MOST 1048576: true; the input reads as it did. -/
def frameLeavesUptoRow : OpenClaim := { program := "ytjgiiolamaimnaa", sum := "c26c1bc7f8f8f1355b06dd36aee4d9b5a2a3dbb704702114acf5c3f346a65160", func := "cloister/cloisterlaw09.FrameLeaves", spec := "frameLeaves", unfollowed := true, recurses := true, apart := false, narrowed := true }
def FrameLeavesUptoSaid : Prop := frameLeavesUptoRow.holds Try.pinned (OpenSpec.upto frameLeavesSpec)

end Rows
end Go.Proofs.Ytjgiiolamaimnaa
