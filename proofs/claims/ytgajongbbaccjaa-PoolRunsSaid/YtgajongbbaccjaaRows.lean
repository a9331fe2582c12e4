/-
  No cell of these rows narrows 'for every input' (looked for: loops, veiled, ifaces, maps, wideKeys, modest, calm, conditions, laid).
  DERIVED. THE GIVEN ROWS OF THIS SEAT. 19 by the template 'for every input the law returns true; each argument reads behind the call as it read before'; 0 by the template 'total and deterministic' (their statements: YtgajongbbaccjaaTotals.lean).
  GIVEN WITH THE SEED: the statements are not yours to turn. If you find one false, say at which input.
  Laid BY PROGRAM, IN A SANDBOX (cutbox-rows.mjs): the forced cells as the released guide's own fill.sh prints them over the translation 87ce603f301fecfc… (all of the seat's roots in one cut). By AI agents, Wed Nov 11 2026. No macro, syntax, notation, axiom, sorry.
-/
import Derived.Test.YtgajongbbaccjaaChecked
import GoSem.Claim
import GoSem.ClaimJoined
import GoSem.ClaimMapViews
import Derived.JoinedTies
import Derived.KernelRfl
namespace Go.Proofs.Ytgajongbbaccjaa
/- THE CELL 'sum', in the pinned program and in every row, IS THE sha256 OF THE DUMP (.gsa) THAT YtgajongbbaccjaaProg.lean LOADS. Nothing in Lean hashes anything: it is a label: what it is worth is what the hold of that sum in a sandbox is worth. -/
noncomputable def Try.pinned : Pinned := { name := "ytgajongbbaccjaa", sum := "87ce603f301fecfcb6cfe18416fb898347078d0d4c83891ecec97c8f4f0975e6", checked := Try.checked }
namespace Rows
def none {H : Type} : Left H := { results := [], args := [] }

/-- 'understudylaw07.PoolNames': WHATEVER THE INPUT: true; the input reads as it did. -/
def poolNamesSpec : ChangeSpec := { name := "poolNames", fn := fun _ => fun
  | [] => { results := [.lit (.bool true)], args := [] }
  | _ => none }
def poolNamesRow : OpenClaim := { program := "ytgajongbbaccjaa", sum := "87ce603f301fecfcb6cfe18416fb898347078d0d4c83891ecec97c8f4f0975e6", func := "understudy/understudylaw07.PoolNames", spec := "poolNames", apart := false }
def PoolNamesSaid : Prop := poolNamesRow.holds Try.pinned (OpenSpec.ofChange poolNamesSpec)

/-- ITS FALSE NEIGHBOUR: 'it returns false'. Refute it at one input. -/
def poolNamesWrong : ChangeSpec := { name := "poolNames", fn := fun _ => fun
  | [] => { results := [.lit (.bool false)], args := [] }
  | _ => none }
def PoolNamesWrongFalsely : Prop := poolNamesRow.holds Try.pinned (OpenSpec.ofChange poolNamesWrong)

/-- 'understudylaw07.PoolTurns': WHATEVER THE INPUT: true; the input reads as it did. -/
def poolTurnsSpec : ChangeSpec := { name := "poolTurns", fn := fun _ => fun
  | [d1, d2, d3] => { results := [.lit (.bool true)], args := [d1, d2, d3] }
  | _ => none }
def poolTurnsRow : OpenClaim := { program := "ytgajongbbaccjaa", sum := "87ce603f301fecfcb6cfe18416fb898347078d0d4c83891ecec97c8f4f0975e6", func := "understudy/understudylaw07.PoolTurns", spec := "poolTurns", apart := false }
def PoolTurnsSaid : Prop := poolTurnsRow.holds Try.pinned (OpenSpec.ofChange poolTurnsSpec)

/-- ITS FALSE NEIGHBOUR: 'it returns false'. Refute it at one input. -/
def poolTurnsWrong : ChangeSpec := { name := "poolTurns", fn := fun _ => fun
  | [d1, d2, d3] => { results := [.lit (.bool false)], args := [d1, d2, d3] }
  | _ => none }
def PoolTurnsWrongFalsely : Prop := poolTurnsRow.holds Try.pinned (OpenSpec.ofChange poolTurnsWrong)

/-- 'understudylaw07.PoolMarks': WHATEVER THE INPUT: true; the input reads as it did. -/
def poolMarksSpec : ChangeSpec := { name := "poolMarks", fn := fun _ => fun
  | [d1, d2, d3] => { results := [.lit (.bool true)], args := [d1, d2, d3] }
  | _ => none }
def poolMarksRow : OpenClaim := { program := "ytgajongbbaccjaa", sum := "87ce603f301fecfcb6cfe18416fb898347078d0d4c83891ecec97c8f4f0975e6", func := "understudy/understudylaw07.PoolMarks", spec := "poolMarks", apart := false }
def PoolMarksSaid : Prop := poolMarksRow.holds Try.pinned (OpenSpec.ofChange poolMarksSpec)

/-- ITS FALSE NEIGHBOUR: 'it returns false'. Refute it at one input. -/
def poolMarksWrong : ChangeSpec := { name := "poolMarks", fn := fun _ => fun
  | [d1, d2, d3] => { results := [.lit (.bool false)], args := [d1, d2, d3] }
  | _ => none }
def PoolMarksWrongFalsely : Prop := poolMarksRow.holds Try.pinned (OpenSpec.ofChange poolMarksWrong)

/-- 'understudylaw07.PoolClones': WHATEVER THE INPUT: true; the input reads as it did. -/
def poolClonesSpec : ChangeSpec := { name := "poolClones", fn := fun _ => fun
  | [d1, d2, d3] => { results := [.lit (.bool true)], args := [d1, d2, d3] }
  | _ => none }
def poolClonesRow : OpenClaim := { program := "ytgajongbbaccjaa", sum := "87ce603f301fecfcb6cfe18416fb898347078d0d4c83891ecec97c8f4f0975e6", func := "understudy/understudylaw07.PoolClones", spec := "poolClones", apart := false }
def PoolClonesSaid : Prop := poolClonesRow.holds Try.pinned (OpenSpec.ofChange poolClonesSpec)

/-- ITS FALSE NEIGHBOUR: 'it returns false'. Refute it at one input. -/
def poolClonesWrong : ChangeSpec := { name := "poolClones", fn := fun _ => fun
  | [d1, d2, d3] => { results := [.lit (.bool false)], args := [d1, d2, d3] }
  | _ => none }
def PoolClonesWrongFalsely : Prop := poolClonesRow.holds Try.pinned (OpenSpec.ofChange poolClonesWrong)

/-- 'understudylaw07.PoolSafe': WHATEVER THE INPUT: true; the input reads as it did. -/
def poolSafeSpec : ChangeSpec := { name := "poolSafe", fn := fun _ => fun
  | [d1, d2, d3] => { results := [.lit (.bool true)], args := [d1, d2, d3] }
  | _ => none }
def poolSafeRow : OpenClaim := { program := "ytgajongbbaccjaa", sum := "87ce603f301fecfcb6cfe18416fb898347078d0d4c83891ecec97c8f4f0975e6", func := "understudy/understudylaw07.PoolSafe", spec := "poolSafe", apart := false }
def PoolSafeSaid : Prop := poolSafeRow.holds Try.pinned (OpenSpec.ofChange poolSafeSpec)

/-- ITS FALSE NEIGHBOUR: 'it returns false'. Refute it at one input. -/
def poolSafeWrong : ChangeSpec := { name := "poolSafe", fn := fun _ => fun
  | [d1, d2, d3] => { results := [.lit (.bool false)], args := [d1, d2, d3] }
  | _ => none }
def PoolSafeWrongFalsely : Prop := poolSafeRow.holds Try.pinned (OpenSpec.ofChange poolSafeWrong)

/-- 'understudylaw07.PoolRuns': WHATEVER THE INPUT: true; the input reads as it did. -/
def poolRunsSpec : ChangeSpec := { name := "poolRuns", fn := fun _ => fun
  | [d1, d2, d3] => { results := [.lit (.bool true)], args := [d1, d2, d3] }
  | _ => none }
def poolRunsRow : OpenClaim := { program := "ytgajongbbaccjaa", sum := "87ce603f301fecfcb6cfe18416fb898347078d0d4c83891ecec97c8f4f0975e6", func := "understudy/understudylaw07.PoolRuns", spec := "poolRuns", apart := false }
def PoolRunsSaid : Prop := poolRunsRow.holds Try.pinned (OpenSpec.ofChange poolRunsSpec)

/-- ITS FALSE NEIGHBOUR: 'it returns false'. Refute it at one input. -/
def poolRunsWrong : ChangeSpec := { name := "poolRuns", fn := fun _ => fun
  | [d1, d2, d3] => { results := [.lit (.bool false)], args := [d1, d2, d3] }
  | _ => none }
def PoolRunsWrongFalsely : Prop := poolRunsRow.holds Try.pinned (OpenSpec.ofChange poolRunsWrong)

/-- 'understudylaw10.TreeSplits': WHATEVER THE INPUT: true; the input reads as it did. -/
def treeSplitsSpec : ChangeSpec := { name := "treeSplits", fn := fun _ => fun
  | [d] => { results := [.lit (.bool true)], args := [d] }
  | _ => none }
def treeSplitsRow : OpenClaim := { program := "ytgajongbbaccjaa", sum := "87ce603f301fecfcb6cfe18416fb898347078d0d4c83891ecec97c8f4f0975e6", func := "understudy/understudylaw10.TreeSplits", spec := "treeSplits", inPlace := ["slices.overlaps[understudy/api.Entry]"], unfollowed := true, recurses := true, apart := false }
def TreeSplitsSaid : Prop := treeSplitsRow.holds Try.pinned (OpenSpec.ofChange treeSplitsSpec)

/-- ITS FALSE NEIGHBOUR: 'it returns false'. Refute it at one input. -/
def treeSplitsWrong : ChangeSpec := { name := "treeSplits", fn := fun _ => fun
  | [d] => { results := [.lit (.bool false)], args := [d] }
  | _ => none }
def TreeSplitsWrongFalsely : Prop := treeSplitsRow.holds Try.pinned (OpenSpec.ofChange treeSplitsWrong)

/-- 'understudylaw10.TreeOrders': WHATEVER THE INPUT: true; the input reads as it did. -/
def treeOrdersSpec : ChangeSpec := { name := "treeOrders", fn := fun _ => fun
  | [d1, d2] => { results := [.lit (.bool true)], args := [d1, d2] }
  | _ => none }
def treeOrdersRow : OpenClaim := { program := "ytgajongbbaccjaa", sum := "87ce603f301fecfcb6cfe18416fb898347078d0d4c83891ecec97c8f4f0975e6", func := "understudy/understudylaw10.TreeOrders", spec := "treeOrders", inPlace := ["slices.overlaps[understudy/api.Entry]"], unfollowed := true, recurses := true, apart := false }
def TreeOrdersSaid : Prop := treeOrdersRow.holds Try.pinned (OpenSpec.ofChange treeOrdersSpec)

/-- ITS FALSE NEIGHBOUR: 'it returns false'. Refute it at one input. -/
def treeOrdersWrong : ChangeSpec := { name := "treeOrders", fn := fun _ => fun
  | [d1, d2] => { results := [.lit (.bool false)], args := [d1, d2] }
  | _ => none }
def TreeOrdersWrongFalsely : Prop := treeOrdersRow.holds Try.pinned (OpenSpec.ofChange treeOrdersWrong)

/-- 'understudylaw10.TreeNames': WHATEVER THE INPUT: true; the input reads as it did. -/
def treeNamesSpec : ChangeSpec := { name := "treeNames", fn := fun _ => fun
  | [] => { results := [.lit (.bool true)], args := [] }
  | _ => none }
def treeNamesRow : OpenClaim := { program := "ytgajongbbaccjaa", sum := "87ce603f301fecfcb6cfe18416fb898347078d0d4c83891ecec97c8f4f0975e6", func := "understudy/understudylaw10.TreeNames", spec := "treeNames", inPlace := ["slices.overlaps[understudy/api.Entry]"], unfollowed := true, recurses := true, apart := false }
def TreeNamesSaid : Prop := treeNamesRow.holds Try.pinned (OpenSpec.ofChange treeNamesSpec)

/-- ITS FALSE NEIGHBOUR: 'it returns false'. Refute it at one input. -/
def treeNamesWrong : ChangeSpec := { name := "treeNames", fn := fun _ => fun
  | [] => { results := [.lit (.bool false)], args := [] }
  | _ => none }
def TreeNamesWrongFalsely : Prop := treeNamesRow.holds Try.pinned (OpenSpec.ofChange treeNamesWrong)

/-- 'understudylaw10.TreeRoom': WHATEVER THE INPUT: true; the input reads as it did. -/
def treeRoomSpec : ChangeSpec := { name := "treeRoom", fn := fun _ => fun
  | [d1, d2] => { results := [.lit (.bool true)], args := [d1, d2] }
  | _ => none }
def treeRoomRow : OpenClaim := { program := "ytgajongbbaccjaa", sum := "87ce603f301fecfcb6cfe18416fb898347078d0d4c83891ecec97c8f4f0975e6", func := "understudy/understudylaw10.TreeRoom", spec := "treeRoom", inPlace := ["slices.overlaps[understudy/api.Entry]"], unfollowed := true, recurses := true, apart := false }
def TreeRoomSaid : Prop := treeRoomRow.holds Try.pinned (OpenSpec.ofChange treeRoomSpec)

/-- ITS FALSE NEIGHBOUR: 'it returns false'. Refute it at one input. -/
def treeRoomWrong : ChangeSpec := { name := "treeRoom", fn := fun _ => fun
  | [d1, d2] => { results := [.lit (.bool false)], args := [d1, d2] }
  | _ => none }
def TreeRoomWrongFalsely : Prop := treeRoomRow.holds Try.pinned (OpenSpec.ofChange treeRoomWrong)

/-- 'understudylaw11.PruneNames': WHATEVER THE INPUT: true; the input reads as it did. -/
def pruneNamesSpec : ChangeSpec := { name := "pruneNames", fn := fun _ => fun
  | [] => { results := [.lit (.bool true)], args := [] }
  | _ => none }
def pruneNamesRow : OpenClaim := { program := "ytgajongbbaccjaa", sum := "87ce603f301fecfcb6cfe18416fb898347078d0d4c83891ecec97c8f4f0975e6", func := "understudy/understudylaw11.PruneNames", spec := "pruneNames", inPlace := ["slices.overlaps[understudy/api.Entry]"], unfollowed := true, recurses := true, apart := false }
def PruneNamesSaid : Prop := pruneNamesRow.holds Try.pinned (OpenSpec.ofChange pruneNamesSpec)

/-- ITS FALSE NEIGHBOUR: 'it returns false'. Refute it at one input. -/
def pruneNamesWrong : ChangeSpec := { name := "pruneNames", fn := fun _ => fun
  | [] => { results := [.lit (.bool false)], args := [] }
  | _ => none }
def PruneNamesWrongFalsely : Prop := pruneNamesRow.holds Try.pinned (OpenSpec.ofChange pruneNamesWrong)

/-- 'understudylaw09.NodesNames': WHATEVER THE INPUT: true; the input reads as it did. -/
def nodesNamesSpec : ChangeSpec := { name := "nodesNames", fn := fun _ => fun
  | [] => { results := [.lit (.bool true)], args := [] }
  | _ => none }
def nodesNamesRow : OpenClaim := { program := "ytgajongbbaccjaa", sum := "87ce603f301fecfcb6cfe18416fb898347078d0d4c83891ecec97c8f4f0975e6", func := "understudy/understudylaw09.NodesNames", spec := "nodesNames", unfollowed := true, recurses := true, apart := false }
def NodesNamesSaid : Prop := nodesNamesRow.holds Try.pinned (OpenSpec.ofChange nodesNamesSpec)

/-- ITS FALSE NEIGHBOUR: 'it returns false'. Refute it at one input. -/
def nodesNamesWrong : ChangeSpec := { name := "nodesNames", fn := fun _ => fun
  | [] => { results := [.lit (.bool false)], args := [] }
  | _ => none }
def NodesNamesWrongFalsely : Prop := nodesNamesRow.holds Try.pinned (OpenSpec.ofChange nodesNamesWrong)

/-- 'understudylaw09.NodesBack': WHATEVER THE INPUT: true; the input reads as it did. -/
def nodesBackSpec : ChangeSpec := { name := "nodesBack", fn := fun _ => fun
  | [d] => { results := [.lit (.bool true)], args := [d] }
  | _ => none }
def nodesBackRow : OpenClaim := { program := "ytgajongbbaccjaa", sum := "87ce603f301fecfcb6cfe18416fb898347078d0d4c83891ecec97c8f4f0975e6", func := "understudy/understudylaw09.NodesBack", spec := "nodesBack", unfollowed := true, recurses := true, apart := false }
def NodesBackSaid : Prop := nodesBackRow.holds Try.pinned (OpenSpec.ofChange nodesBackSpec)

/-- ITS FALSE NEIGHBOUR: 'it returns false'. Refute it at one input. -/
def nodesBackWrong : ChangeSpec := { name := "nodesBack", fn := fun _ => fun
  | [d] => { results := [.lit (.bool false)], args := [d] }
  | _ => none }
def NodesBackWrongFalsely : Prop := nodesBackRow.holds Try.pinned (OpenSpec.ofChange nodesBackWrong)

/-- 'understudylaw09.NodesUndo': WHATEVER THE INPUT: true; the input reads as it did. -/
def nodesUndoSpec : ChangeSpec := { name := "nodesUndo", fn := fun _ => fun
  | [d1, d2, d3] => { results := [.lit (.bool true)], args := [d1, d2, d3] }
  | _ => none }
def nodesUndoRow : OpenClaim := { program := "ytgajongbbaccjaa", sum := "87ce603f301fecfcb6cfe18416fb898347078d0d4c83891ecec97c8f4f0975e6", func := "understudy/understudylaw09.NodesUndo", spec := "nodesUndo", unfollowed := true, recurses := true, apart := false }
def NodesUndoSaid : Prop := nodesUndoRow.holds Try.pinned (OpenSpec.ofChange nodesUndoSpec)

/-- ITS FALSE NEIGHBOUR: 'it returns false'. Refute it at one input. -/
def nodesUndoWrong : ChangeSpec := { name := "nodesUndo", fn := fun _ => fun
  | [d1, d2, d3] => { results := [.lit (.bool false)], args := [d1, d2, d3] }
  | _ => none }
def NodesUndoWrongFalsely : Prop := nodesUndoRow.holds Try.pinned (OpenSpec.ofChange nodesUndoWrong)

/-- 'understudylaw09.NodesExact': WHATEVER THE INPUT: true; the input reads as it did. -/
def nodesExactSpec : ChangeSpec := { name := "nodesExact", fn := fun _ => fun
  | [d1, d2] => { results := [.lit (.bool true)], args := [d1, d2] }
  | _ => none }
def nodesExactRow : OpenClaim := { program := "ytgajongbbaccjaa", sum := "87ce603f301fecfcb6cfe18416fb898347078d0d4c83891ecec97c8f4f0975e6", func := "understudy/understudylaw09.NodesExact", spec := "nodesExact", unfollowed := true, recurses := true, apart := false }
def NodesExactSaid : Prop := nodesExactRow.holds Try.pinned (OpenSpec.ofChange nodesExactSpec)

/-- ITS FALSE NEIGHBOUR: 'it returns false'. Refute it at one input. -/
def nodesExactWrong : ChangeSpec := { name := "nodesExact", fn := fun _ => fun
  | [d1, d2] => { results := [.lit (.bool false)], args := [d1, d2] }
  | _ => none }
def NodesExactWrongFalsely : Prop := nodesExactRow.holds Try.pinned (OpenSpec.ofChange nodesExactWrong)

/-- 'understudylaw11.PruneDense': WHATEVER THE INPUT: true; the input reads as it did. -/
def pruneDenseSpec : ChangeSpec := { name := "pruneDense", fn := fun _ => fun
  | [d] => { results := [.lit (.bool true)], args := [d] }
  | _ => none }
def pruneDenseRow : OpenClaim := { program := "ytgajongbbaccjaa", sum := "87ce603f301fecfcb6cfe18416fb898347078d0d4c83891ecec97c8f4f0975e6", func := "understudy/understudylaw11.PruneDense", spec := "pruneDense", inPlace := ["slices.overlaps[understudy/api.Entry]"], unfollowed := true, recurses := true, apart := false }
def PruneDenseSaid : Prop := pruneDenseRow.holds Try.pinned (OpenSpec.ofChange pruneDenseSpec)

/-- ITS FALSE NEIGHBOUR: 'it returns false'. Refute it at one input. -/
def pruneDenseWrong : ChangeSpec := { name := "pruneDense", fn := fun _ => fun
  | [d] => { results := [.lit (.bool false)], args := [d] }
  | _ => none }
def PruneDenseWrongFalsely : Prop := pruneDenseRow.holds Try.pinned (OpenSpec.ofChange pruneDenseWrong)

/-- 'understudylaw12.DiffWays': WHATEVER THE INPUT: true; the input reads as it did. -/
def diffWaysSpec : ChangeSpec := { name := "diffWays", fn := fun _ => fun
  | [d1, d2] => { results := [.lit (.bool true)], args := [d1, d2] }
  | _ => none }
def diffWaysRow : OpenClaim := { program := "ytgajongbbaccjaa", sum := "87ce603f301fecfcb6cfe18416fb898347078d0d4c83891ecec97c8f4f0975e6", func := "understudy/understudylaw12.DiffWays", spec := "diffWays", inPlace := ["slices.overlaps[understudy/api.Entry]"], unfollowed := true, recurses := true, apart := false }
def DiffWaysSaid : Prop := diffWaysRow.holds Try.pinned (OpenSpec.ofChange diffWaysSpec)

/-- ITS FALSE NEIGHBOUR: 'it returns false'. Refute it at one input. -/
def diffWaysWrong : ChangeSpec := { name := "diffWays", fn := fun _ => fun
  | [d1, d2] => { results := [.lit (.bool false)], args := [d1, d2] }
  | _ => none }
def DiffWaysWrongFalsely : Prop := diffWaysRow.holds Try.pinned (OpenSpec.ofChange diffWaysWrong)

/-- 'understudylaw12.DiffTells': WHATEVER THE INPUT: true; the input reads as it did. -/
def diffTellsSpec : ChangeSpec := { name := "diffTells", fn := fun _ => fun
  | [d1, d2] => { results := [.lit (.bool true)], args := [d1, d2] }
  | _ => none }
def diffTellsRow : OpenClaim := { program := "ytgajongbbaccjaa", sum := "87ce603f301fecfcb6cfe18416fb898347078d0d4c83891ecec97c8f4f0975e6", func := "understudy/understudylaw12.DiffTells", spec := "diffTells", inPlace := ["slices.overlaps[understudy/api.Entry]"], unfollowed := true, recurses := true, apart := false }
def DiffTellsSaid : Prop := diffTellsRow.holds Try.pinned (OpenSpec.ofChange diffTellsSpec)

/-- ITS FALSE NEIGHBOUR: 'it returns false'. Refute it at one input. -/
def diffTellsWrong : ChangeSpec := { name := "diffTells", fn := fun _ => fun
  | [d1, d2] => { results := [.lit (.bool false)], args := [d1, d2] }
  | _ => none }
def DiffTellsWrongFalsely : Prop := diffTellsRow.holds Try.pinned (OpenSpec.ofChange diffTellsWrong)

/-- 'understudylaw12.DiffApplies': WHATEVER THE INPUT: true; the input reads as it did. -/
def diffAppliesSpec : ChangeSpec := { name := "diffApplies", fn := fun _ => fun
  | [d] => { results := [.lit (.bool true)], args := [d] }
  | _ => none }
def diffAppliesRow : OpenClaim := { program := "ytgajongbbaccjaa", sum := "87ce603f301fecfcb6cfe18416fb898347078d0d4c83891ecec97c8f4f0975e6", func := "understudy/understudylaw12.DiffApplies", spec := "diffApplies", inPlace := ["slices.overlaps[understudy/api.Entry]"], unfollowed := true, recurses := true, apart := false }
def DiffAppliesSaid : Prop := diffAppliesRow.holds Try.pinned (OpenSpec.ofChange diffAppliesSpec)

/-- ITS FALSE NEIGHBOUR: 'it returns false'. Refute it at one input. -/
def diffAppliesWrong : ChangeSpec := { name := "diffApplies", fn := fun _ => fun
  | [d] => { results := [.lit (.bool false)], args := [d] }
  | _ => none }
def DiffAppliesWrongFalsely : Prop := diffAppliesRow.holds Try.pinned (OpenSpec.ofChange diffAppliesWrong)

/- THE SECOND FORM. 'bulk': how many values and letters a reading holds, each counted each time it is reached (what is shared counts as often as it is met; a slice's spare places count too). A statement '..UptoSaid' is the law's where the arguments, and the package variables that the reading takes, are together of bulk at most 1048576: NARROWER than '..Said'. Prove '..Said' where nothing that the law and all that it calls make is longer than what came in: it says more and counts as full. Else prove '..UptoSaid'. A law counts once. -/
mutual
def uptoBulk {H : Type} : DataW H → Nat
  | .lit (.string bytes) => bytes.length + 1
  | .lit _ => 1
  | .nil => 1
  | .ptr d => uptoBulk d + 1
  | .slice elems spare => uptoBulkAll elems + uptoBulkAll spare + 1
  | .agg parts => uptoBulkAll parts + 1
  | .iface _ d => uptoBulk d + 1
  | .map entries => uptoBulkEntries entries + 1
  | .held _ => 1
def uptoBulkAll {H : Type} : List (DataW H) → Nat
  | [] => 0
  | d :: r => uptoBulk d + uptoBulkAll r
def uptoBulkEntries {H : Type} : List (Lit × DataW H) → Nat
  | [] => 0
  | x :: r => uptoBulkEntry x + uptoBulkEntries r
def uptoBulkEntry {H : Type} : Lit × DataW H → Nat
  | (.string bytes, d) => bytes.length + uptoBulk d + 1
  | (_, d) => uptoBulk d + 1
 end
def uptoSmall : (H : Type) → List (DataW H) → Bool := fun _ ds => decide (uptoBulkAll ds ≤ 1048576)
def OpenSpec.upto (s : _root_.Go.ChangeSpec) : _root_.Go.OpenSpec := { _root_.Go.OpenSpec.ofChange s with cond := some uptoSmall }

/-- 'understudylaw07.PoolNames', WHERE WHAT IT READS IS OF BULK AT MOST 1048576: true; the input reads as it did. -/
def poolNamesUptoRow : OpenClaim := { program := "ytgajongbbaccjaa", sum := "87ce603f301fecfcb6cfe18416fb898347078d0d4c83891ecec97c8f4f0975e6", func := "understudy/understudylaw07.PoolNames", spec := "poolNames", apart := false, narrowed := true }
def PoolNamesUptoSaid : Prop := poolNamesUptoRow.holds Try.pinned (OpenSpec.upto poolNamesSpec)

/-- 'understudylaw07.PoolTurns', WHERE WHAT IT READS IS OF BULK AT MOST 1048576: true; the input reads as it did. -/
def poolTurnsUptoRow : OpenClaim := { program := "ytgajongbbaccjaa", sum := "87ce603f301fecfcb6cfe18416fb898347078d0d4c83891ecec97c8f4f0975e6", func := "understudy/understudylaw07.PoolTurns", spec := "poolTurns", apart := false, narrowed := true }
def PoolTurnsUptoSaid : Prop := poolTurnsUptoRow.holds Try.pinned (OpenSpec.upto poolTurnsSpec)

/-- 'understudylaw07.PoolMarks', WHERE WHAT IT READS IS OF BULK AT MOST 1048576: true; the input reads as it did. -/
def poolMarksUptoRow : OpenClaim := { program := "ytgajongbbaccjaa", sum := "87ce603f301fecfcb6cfe18416fb898347078d0d4c83891ecec97c8f4f0975e6", func := "understudy/understudylaw07.PoolMarks", spec := "poolMarks", apart := false, narrowed := true }
def PoolMarksUptoSaid : Prop := poolMarksUptoRow.holds Try.pinned (OpenSpec.upto poolMarksSpec)

/-- 'understudylaw07.PoolClones', WHERE WHAT IT READS IS OF BULK AT MOST 1048576: true; the input reads as it did. -/
def poolClonesUptoRow : OpenClaim := { program := "ytgajongbbaccjaa", sum := "87ce603f301fecfcb6cfe18416fb898347078d0d4c83891ecec97c8f4f0975e6", func := "understudy/understudylaw07.PoolClones", spec := "poolClones", apart := false, narrowed := true }
def PoolClonesUptoSaid : Prop := poolClonesUptoRow.holds Try.pinned (OpenSpec.upto poolClonesSpec)

/-- 'understudylaw07.PoolSafe', WHERE WHAT IT READS IS OF BULK AT MOST 1048576: true; the input reads as it did. -/
def poolSafeUptoRow : OpenClaim := { program := "ytgajongbbaccjaa", sum := "87ce603f301fecfcb6cfe18416fb898347078d0d4c83891ecec97c8f4f0975e6", func := "understudy/understudylaw07.PoolSafe", spec := "poolSafe", apart := false, narrowed := true }
def PoolSafeUptoSaid : Prop := poolSafeUptoRow.holds Try.pinned (OpenSpec.upto poolSafeSpec)

/-- 'understudylaw07.PoolRuns', WHERE WHAT IT READS IS OF BULK AT MOST 1048576: true; the input reads as it did. -/
def poolRunsUptoRow : OpenClaim := { program := "ytgajongbbaccjaa", sum := "87ce603f301fecfcb6cfe18416fb898347078d0d4c83891ecec97c8f4f0975e6", func := "understudy/understudylaw07.PoolRuns", spec := "poolRuns", apart := false, narrowed := true }
def PoolRunsUptoSaid : Prop := poolRunsUptoRow.holds Try.pinned (OpenSpec.upto poolRunsSpec)

/-- 'understudylaw10.TreeSplits', WHERE WHAT IT READS IS OF BULK AT MOST 1048576: true; the input reads as it did. -/
def treeSplitsUptoRow : OpenClaim := { program := "ytgajongbbaccjaa", sum := "87ce603f301fecfcb6cfe18416fb898347078d0d4c83891ecec97c8f4f0975e6", func := "understudy/understudylaw10.TreeSplits", spec := "treeSplits", inPlace := ["slices.overlaps[understudy/api.Entry]"], unfollowed := true, recurses := true, apart := false, narrowed := true }
def TreeSplitsUptoSaid : Prop := treeSplitsUptoRow.holds Try.pinned (OpenSpec.upto treeSplitsSpec)

/-- 'understudylaw10.TreeOrders', WHERE WHAT IT READS IS OF BULK AT MOST 1048576: true; the input reads as it did. -/
def treeOrdersUptoRow : OpenClaim := { program := "ytgajongbbaccjaa", sum := "87ce603f301fecfcb6cfe18416fb898347078d0d4c83891ecec97c8f4f0975e6", func := "understudy/understudylaw10.TreeOrders", spec := "treeOrders", inPlace := ["slices.overlaps[understudy/api.Entry]"], unfollowed := true, recurses := true, apart := false, narrowed := true }
def TreeOrdersUptoSaid : Prop := treeOrdersUptoRow.holds Try.pinned (OpenSpec.upto treeOrdersSpec)

/-- 'understudylaw10.TreeNames', WHERE WHAT IT READS IS OF BULK AT MOST 1048576: true; the input reads as it did. -/
def treeNamesUptoRow : OpenClaim := { program := "ytgajongbbaccjaa", sum := "87ce603f301fecfcb6cfe18416fb898347078d0d4c83891ecec97c8f4f0975e6", func := "understudy/understudylaw10.TreeNames", spec := "treeNames", inPlace := ["slices.overlaps[understudy/api.Entry]"], unfollowed := true, recurses := true, apart := false, narrowed := true }
def TreeNamesUptoSaid : Prop := treeNamesUptoRow.holds Try.pinned (OpenSpec.upto treeNamesSpec)

/-- 'understudylaw10.TreeRoom', WHERE WHAT IT READS IS OF BULK AT MOST 1048576: true; the input reads as it did. -/
def treeRoomUptoRow : OpenClaim := { program := "ytgajongbbaccjaa", sum := "87ce603f301fecfcb6cfe18416fb898347078d0d4c83891ecec97c8f4f0975e6", func := "understudy/understudylaw10.TreeRoom", spec := "treeRoom", inPlace := ["slices.overlaps[understudy/api.Entry]"], unfollowed := true, recurses := true, apart := false, narrowed := true }
def TreeRoomUptoSaid : Prop := treeRoomUptoRow.holds Try.pinned (OpenSpec.upto treeRoomSpec)

/-- 'understudylaw11.PruneNames', WHERE WHAT IT READS IS OF BULK AT MOST 1048576: true; the input reads as it did. -/
def pruneNamesUptoRow : OpenClaim := { program := "ytgajongbbaccjaa", sum := "87ce603f301fecfcb6cfe18416fb898347078d0d4c83891ecec97c8f4f0975e6", func := "understudy/understudylaw11.PruneNames", spec := "pruneNames", inPlace := ["slices.overlaps[understudy/api.Entry]"], unfollowed := true, recurses := true, apart := false, narrowed := true }
def PruneNamesUptoSaid : Prop := pruneNamesUptoRow.holds Try.pinned (OpenSpec.upto pruneNamesSpec)

/-- 'understudylaw09.NodesNames', WHERE WHAT IT READS IS OF BULK AT MOST 1048576: true; the input reads as it did. -/
def nodesNamesUptoRow : OpenClaim := { program := "ytgajongbbaccjaa", sum := "87ce603f301fecfcb6cfe18416fb898347078d0d4c83891ecec97c8f4f0975e6", func := "understudy/understudylaw09.NodesNames", spec := "nodesNames", unfollowed := true, recurses := true, apart := false, narrowed := true }
def NodesNamesUptoSaid : Prop := nodesNamesUptoRow.holds Try.pinned (OpenSpec.upto nodesNamesSpec)

/-- 'understudylaw09.NodesBack', WHERE WHAT IT READS IS OF BULK AT MOST 1048576: true; the input reads as it did. -/
def nodesBackUptoRow : OpenClaim := { program := "ytgajongbbaccjaa", sum := "87ce603f301fecfcb6cfe18416fb898347078d0d4c83891ecec97c8f4f0975e6", func := "understudy/understudylaw09.NodesBack", spec := "nodesBack", unfollowed := true, recurses := true, apart := false, narrowed := true }
def NodesBackUptoSaid : Prop := nodesBackUptoRow.holds Try.pinned (OpenSpec.upto nodesBackSpec)

/-- 'understudylaw09.NodesUndo', WHERE WHAT IT READS IS OF BULK AT MOST 1048576: true; the input reads as it did. -/
def nodesUndoUptoRow : OpenClaim := { program := "ytgajongbbaccjaa", sum := "87ce603f301fecfcb6cfe18416fb898347078d0d4c83891ecec97c8f4f0975e6", func := "understudy/understudylaw09.NodesUndo", spec := "nodesUndo", unfollowed := true, recurses := true, apart := false, narrowed := true }
def NodesUndoUptoSaid : Prop := nodesUndoUptoRow.holds Try.pinned (OpenSpec.upto nodesUndoSpec)

/-- 'understudylaw09.NodesExact', WHERE WHAT IT READS IS OF BULK AT MOST 1048576: true; the input reads as it did. -/
def nodesExactUptoRow : OpenClaim := { program := "ytgajongbbaccjaa", sum := "87ce603f301fecfcb6cfe18416fb898347078d0d4c83891ecec97c8f4f0975e6", func := "understudy/understudylaw09.NodesExact", spec := "nodesExact", unfollowed := true, recurses := true, apart := false, narrowed := true }
def NodesExactUptoSaid : Prop := nodesExactUptoRow.holds Try.pinned (OpenSpec.upto nodesExactSpec)

/-- 'understudylaw11.PruneDense', WHERE WHAT IT READS IS OF BULK AT MOST 1048576: true; the input reads as it did. -/
def pruneDenseUptoRow : OpenClaim := { program := "ytgajongbbaccjaa", sum := "87ce603f301fecfcb6cfe18416fb898347078d0d4c83891ecec97c8f4f0975e6", func := "understudy/understudylaw11.PruneDense", spec := "pruneDense", inPlace := ["slices.overlaps[understudy/api.Entry]"], unfollowed := true, recurses := true, apart := false, narrowed := true }
def PruneDenseUptoSaid : Prop := pruneDenseUptoRow.holds Try.pinned (OpenSpec.upto pruneDenseSpec)

/-- 'understudylaw12.DiffWays', WHERE WHAT IT READS IS OF BULK AT MOST 1048576: true; the input reads as it did. -/
def diffWaysUptoRow : OpenClaim := { program := "ytgajongbbaccjaa", sum := "87ce603f301fecfcb6cfe18416fb898347078d0d4c83891ecec97c8f4f0975e6", func := "understudy/understudylaw12.DiffWays", spec := "diffWays", inPlace := ["slices.overlaps[understudy/api.Entry]"], unfollowed := true, recurses := true, apart := false, narrowed := true }
def DiffWaysUptoSaid : Prop := diffWaysUptoRow.holds Try.pinned (OpenSpec.upto diffWaysSpec)

/-- 'understudylaw12.DiffTells', WHERE WHAT IT READS IS OF BULK AT MOST 1048576: true; the input reads as it did. -/
def diffTellsUptoRow : OpenClaim := { program := "ytgajongbbaccjaa", sum := "87ce603f301fecfcb6cfe18416fb898347078d0d4c83891ecec97c8f4f0975e6", func := "understudy/understudylaw12.DiffTells", spec := "diffTells", inPlace := ["slices.overlaps[understudy/api.Entry]"], unfollowed := true, recurses := true, apart := false, narrowed := true }
def DiffTellsUptoSaid : Prop := diffTellsUptoRow.holds Try.pinned (OpenSpec.upto diffTellsSpec)

/-- 'understudylaw12.DiffApplies', WHERE WHAT IT READS IS OF BULK AT MOST 1048576: true; the input reads as it did. -/
def diffAppliesUptoRow : OpenClaim := { program := "ytgajongbbaccjaa", sum := "87ce603f301fecfcb6cfe18416fb898347078d0d4c83891ecec97c8f4f0975e6", func := "understudy/understudylaw12.DiffApplies", spec := "diffApplies", inPlace := ["slices.overlaps[understudy/api.Entry]"], unfollowed := true, recurses := true, apart := false, narrowed := true }
def DiffAppliesUptoSaid : Prop := diffAppliesUptoRow.holds Try.pinned (OpenSpec.upto diffAppliesSpec)

end Rows
end Go.Proofs.Ytgajongbbaccjaa
