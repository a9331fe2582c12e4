/-
  No cell of these rows narrows 'for every input' (looked for: loops, veiled, ifaces, maps, wideKeys, modest, calm, conditions, laid).
  DERIVED. THE GIVEN ROWS OF THIS SEAT. 10 by the template 'for every input the law returns true; each argument reads behind the call as it read before'; 0 by the template 'total and deterministic' (their statements: YthmjcbmeiabbgaaTotals.lean).
  GIVEN WITH THE SEED: the statements are not yours to turn. If you find one false, say at which input.
  Laid BY PROGRAM, IN A SANDBOX (cutbox-rows.mjs): the forced cells as the released guide's own fill.sh prints them over the translation 8f96e45b13af43b6… (all of the seat's roots in one cut). By AI agents, Wed Nov 11 2026. No macro, syntax, notation, axiom, sorry.
-/
import Derived.Test.YthmjcbmeiabbgaaChecked
import GoSem.Claim
import GoSem.ClaimJoined
import GoSem.ClaimMapViews
import Derived.JoinedTies
import Derived.KernelRfl
namespace Go.Proofs.Ythmjcbmeiabbgaa
/- THE CELL 'sum', in the pinned program and in every row, IS THE sha256 OF THE DUMP (.gsa) THAT YthmjcbmeiabbgaaProg.lean LOADS. Nothing in Lean hashes anything: it is a label: what it is worth is what the hold of that sum in a sandbox is worth. -/
noncomputable def Try.pinned : Pinned := { name := "ythmjcbmeiabbgaa", sum := "8f96e45b13af43b65b16d95993e3e6444324d59505e0276996b049bfec504b11", checked := Try.checked }
namespace Rows
def none {H : Type} : Left H := { results := [], args := [] }

/-- 'understudylaw10.TreeSplits': WHATEVER THE INPUT: true; the input reads as it did. -/
def treeSplitsSpec : ChangeSpec := { name := "treeSplits", fn := fun _ => fun
  | [d] => { results := [.lit (.bool true)], args := [d] }
  | _ => none }
def treeSplitsRow : OpenClaim := { program := "ythmjcbmeiabbgaa", sum := "8f96e45b13af43b65b16d95993e3e6444324d59505e0276996b049bfec504b11", func := "understudy/understudylaw10.TreeSplits", spec := "treeSplits", inPlace := ["slices.overlaps[understudy/api.Entry]"], unfollowed := true, recurses := true, apart := false }
def TreeSplitsSaid : Prop := treeSplitsRow.holds Try.pinned (OpenSpec.ofChange treeSplitsSpec)

/-- ITS FALSE NEIGHBOUR: 'it returns false'. Refute it at one input. -/
def treeSplitsWrong : ChangeSpec := { name := "treeSplits", fn := fun _ => fun
  | [d] => { results := [.lit (.bool false)], args := [d] }
  | _ => none }
def TreeSplitsWrongFalsely : Prop := treeSplitsRow.holds Try.pinned (OpenSpec.ofChange treeSplitsWrong)

/-- 'understudylaw10.TreeOrders': WHATEVER THE INPUT: true; the input reads as it did. -/
def treeOrdersSpec : ChangeSpec := { name := "treeOrders", fn := fun _ => fun
  | [d1, d2] => { results := [.lit (.bool true)], args := [d1, d2] }
  | _ => none }
def treeOrdersRow : OpenClaim := { program := "ythmjcbmeiabbgaa", sum := "8f96e45b13af43b65b16d95993e3e6444324d59505e0276996b049bfec504b11", func := "understudy/understudylaw10.TreeOrders", spec := "treeOrders", inPlace := ["slices.overlaps[understudy/api.Entry]"], unfollowed := true, recurses := true, apart := false }
def TreeOrdersSaid : Prop := treeOrdersRow.holds Try.pinned (OpenSpec.ofChange treeOrdersSpec)

/-- ITS FALSE NEIGHBOUR: 'it returns false'. Refute it at one input. -/
def treeOrdersWrong : ChangeSpec := { name := "treeOrders", fn := fun _ => fun
  | [d1, d2] => { results := [.lit (.bool false)], args := [d1, d2] }
  | _ => none }
def TreeOrdersWrongFalsely : Prop := treeOrdersRow.holds Try.pinned (OpenSpec.ofChange treeOrdersWrong)

/-- 'understudylaw10.TreeNames': WHATEVER THE INPUT: true; the input reads as it did. -/
def treeNamesSpec : ChangeSpec := { name := "treeNames", fn := fun _ => fun
  | [] => { results := [.lit (.bool true)], args := [] }
  | _ => none }
def treeNamesRow : OpenClaim := { program := "ythmjcbmeiabbgaa", sum := "8f96e45b13af43b65b16d95993e3e6444324d59505e0276996b049bfec504b11", func := "understudy/understudylaw10.TreeNames", spec := "treeNames", inPlace := ["slices.overlaps[understudy/api.Entry]"], unfollowed := true, recurses := true, apart := false }
def TreeNamesSaid : Prop := treeNamesRow.holds Try.pinned (OpenSpec.ofChange treeNamesSpec)

/-- ITS FALSE NEIGHBOUR: 'it returns false'. Refute it at one input. -/
def treeNamesWrong : ChangeSpec := { name := "treeNames", fn := fun _ => fun
  | [] => { results := [.lit (.bool false)], args := [] }
  | _ => none }
def TreeNamesWrongFalsely : Prop := treeNamesRow.holds Try.pinned (OpenSpec.ofChange treeNamesWrong)

/-- 'understudylaw10.TreeRoom': WHATEVER THE INPUT: true; the input reads as it did. -/
def treeRoomSpec : ChangeSpec := { name := "treeRoom", fn := fun _ => fun
  | [d1, d2] => { results := [.lit (.bool true)], args := [d1, d2] }
  | _ => none }
def treeRoomRow : OpenClaim := { program := "ythmjcbmeiabbgaa", sum := "8f96e45b13af43b65b16d95993e3e6444324d59505e0276996b049bfec504b11", func := "understudy/understudylaw10.TreeRoom", spec := "treeRoom", inPlace := ["slices.overlaps[understudy/api.Entry]"], unfollowed := true, recurses := true, apart := false }
def TreeRoomSaid : Prop := treeRoomRow.holds Try.pinned (OpenSpec.ofChange treeRoomSpec)

/-- ITS FALSE NEIGHBOUR: 'it returns false'. Refute it at one input. -/
def treeRoomWrong : ChangeSpec := { name := "treeRoom", fn := fun _ => fun
  | [d1, d2] => { results := [.lit (.bool false)], args := [d1, d2] }
  | _ => none }
def TreeRoomWrongFalsely : Prop := treeRoomRow.holds Try.pinned (OpenSpec.ofChange treeRoomWrong)

/-- 'understudylaw11.PruneNames': WHATEVER THE INPUT: true; the input reads as it did. -/
def pruneNamesSpec : ChangeSpec := { name := "pruneNames", fn := fun _ => fun
  | [] => { results := [.lit (.bool true)], args := [] }
  | _ => none }
def pruneNamesRow : OpenClaim := { program := "ythmjcbmeiabbgaa", sum := "8f96e45b13af43b65b16d95993e3e6444324d59505e0276996b049bfec504b11", func := "understudy/understudylaw11.PruneNames", spec := "pruneNames", inPlace := ["slices.overlaps[understudy/api.Entry]"], unfollowed := true, recurses := true, apart := false }
def PruneNamesSaid : Prop := pruneNamesRow.holds Try.pinned (OpenSpec.ofChange pruneNamesSpec)

/-- ITS FALSE NEIGHBOUR: 'it returns false'. Refute it at one input. -/
def pruneNamesWrong : ChangeSpec := { name := "pruneNames", fn := fun _ => fun
  | [] => { results := [.lit (.bool false)], args := [] }
  | _ => none }
def PruneNamesWrongFalsely : Prop := pruneNamesRow.holds Try.pinned (OpenSpec.ofChange pruneNamesWrong)

/-- 'understudylaw09.NodesNames': WHATEVER THE INPUT: true; the input reads as it did. -/
def nodesNamesSpec : ChangeSpec := { name := "nodesNames", fn := fun _ => fun
  | [] => { results := [.lit (.bool true)], args := [] }
  | _ => none }
def nodesNamesRow : OpenClaim := { program := "ythmjcbmeiabbgaa", sum := "8f96e45b13af43b65b16d95993e3e6444324d59505e0276996b049bfec504b11", func := "understudy/understudylaw09.NodesNames", spec := "nodesNames", unfollowed := true, recurses := true, apart := false }
def NodesNamesSaid : Prop := nodesNamesRow.holds Try.pinned (OpenSpec.ofChange nodesNamesSpec)

/-- ITS FALSE NEIGHBOUR: 'it returns false'. Refute it at one input. -/
def nodesNamesWrong : ChangeSpec := { name := "nodesNames", fn := fun _ => fun
  | [] => { results := [.lit (.bool false)], args := [] }
  | _ => none }
def NodesNamesWrongFalsely : Prop := nodesNamesRow.holds Try.pinned (OpenSpec.ofChange nodesNamesWrong)

/-- 'understudylaw09.NodesBack': WHATEVER THE INPUT: true; the input reads as it did. -/
def nodesBackSpec : ChangeSpec := { name := "nodesBack", fn := fun _ => fun
  | [d] => { results := [.lit (.bool true)], args := [d] }
  | _ => none }
def nodesBackRow : OpenClaim := { program := "ythmjcbmeiabbgaa", sum := "8f96e45b13af43b65b16d95993e3e6444324d59505e0276996b049bfec504b11", func := "understudy/understudylaw09.NodesBack", spec := "nodesBack", unfollowed := true, recurses := true, apart := false }
def NodesBackSaid : Prop := nodesBackRow.holds Try.pinned (OpenSpec.ofChange nodesBackSpec)

/-- ITS FALSE NEIGHBOUR: 'it returns false'. Refute it at one input. -/
def nodesBackWrong : ChangeSpec := { name := "nodesBack", fn := fun _ => fun
  | [d] => { results := [.lit (.bool false)], args := [d] }
  | _ => none }
def NodesBackWrongFalsely : Prop := nodesBackRow.holds Try.pinned (OpenSpec.ofChange nodesBackWrong)

/-- 'understudylaw09.NodesUndo': WHATEVER THE INPUT: true; the input reads as it did. -/
def nodesUndoSpec : ChangeSpec := { name := "nodesUndo", fn := fun _ => fun
  | [d1, d2, d3] => { results := [.lit (.bool true)], args := [d1, d2, d3] }
  | _ => none }
def nodesUndoRow : OpenClaim := { program := "ythmjcbmeiabbgaa", sum := "8f96e45b13af43b65b16d95993e3e6444324d59505e0276996b049bfec504b11", func := "understudy/understudylaw09.NodesUndo", spec := "nodesUndo", unfollowed := true, recurses := true, apart := false }
def NodesUndoSaid : Prop := nodesUndoRow.holds Try.pinned (OpenSpec.ofChange nodesUndoSpec)

/-- ITS FALSE NEIGHBOUR: 'it returns false'. Refute it at one input. -/
def nodesUndoWrong : ChangeSpec := { name := "nodesUndo", fn := fun _ => fun
  | [d1, d2, d3] => { results := [.lit (.bool false)], args := [d1, d2, d3] }
  | _ => none }
def NodesUndoWrongFalsely : Prop := nodesUndoRow.holds Try.pinned (OpenSpec.ofChange nodesUndoWrong)

/-- 'understudylaw09.NodesExact': WHATEVER THE INPUT: true; the input reads as it did. -/
def nodesExactSpec : ChangeSpec := { name := "nodesExact", fn := fun _ => fun
  | [d1, d2] => { results := [.lit (.bool true)], args := [d1, d2] }
  | _ => none }
def nodesExactRow : OpenClaim := { program := "ythmjcbmeiabbgaa", sum := "8f96e45b13af43b65b16d95993e3e6444324d59505e0276996b049bfec504b11", func := "understudy/understudylaw09.NodesExact", spec := "nodesExact", unfollowed := true, recurses := true, apart := false }
def NodesExactSaid : Prop := nodesExactRow.holds Try.pinned (OpenSpec.ofChange nodesExactSpec)

/-- ITS FALSE NEIGHBOUR: 'it returns false'. Refute it at one input. -/
def nodesExactWrong : ChangeSpec := { name := "nodesExact", fn := fun _ => fun
  | [d1, d2] => { results := [.lit (.bool false)], args := [d1, d2] }
  | _ => none }
def NodesExactWrongFalsely : Prop := nodesExactRow.holds Try.pinned (OpenSpec.ofChange nodesExactWrong)

/-- 'understudylaw11.PruneDense': WHATEVER THE INPUT: true; the input reads as it did. -/
def pruneDenseSpec : ChangeSpec := { name := "pruneDense", fn := fun _ => fun
  | [d] => { results := [.lit (.bool true)], args := [d] }
  | _ => none }
def pruneDenseRow : OpenClaim := { program := "ythmjcbmeiabbgaa", sum := "8f96e45b13af43b65b16d95993e3e6444324d59505e0276996b049bfec504b11", func := "understudy/understudylaw11.PruneDense", spec := "pruneDense", inPlace := ["slices.overlaps[understudy/api.Entry]"], unfollowed := true, recurses := true, apart := false }
def PruneDenseSaid : Prop := pruneDenseRow.holds Try.pinned (OpenSpec.ofChange pruneDenseSpec)

/-- ITS FALSE NEIGHBOUR: 'it returns false'. Refute it at one input. -/
def pruneDenseWrong : ChangeSpec := { name := "pruneDense", fn := fun _ => fun
  | [d] => { results := [.lit (.bool false)], args := [d] }
  | _ => none }
def PruneDenseWrongFalsely : Prop := pruneDenseRow.holds Try.pinned (OpenSpec.ofChange pruneDenseWrong)

/- THE SECOND FORM. 'bulk': how many values and letters a reading holds, each counted each time it is reached (what is shared counts as often as it is met; a slice's spare places count too). A statement '..UptoSaid' is the law's where the arguments, and the package variables that the reading takes, are together of bulk at most 1048576: NARROWER than '..Said'. Prove '..Said' where nothing that the law and all that it calls make is longer than what came in: it says more and counts as full. Else prove '..UptoSaid'. A law counts once. -/
mutual
def uptoBulk {H : Type} : DataW H → Nat
  | .lit (.string bytes) => bytes.length + 1
  | .lit _ => 1
  | .nil => 1
  | .ptr d => uptoBulk d + 1
  | .slice elems spare => uptoBulkAll elems + uptoBulkAll spare + 1
  | .agg parts => uptoBulkAll parts + 1
  | .iface _ d => uptoBulk d + 1
  | .map entries => uptoBulkEntries entries + 1
  | .held _ => 1
def uptoBulkAll {H : Type} : List (DataW H) → Nat
  | [] => 0
  | d :: r => uptoBulk d + uptoBulkAll r
def uptoBulkEntries {H : Type} : List (Lit × DataW H) → Nat
  | [] => 0
  | x :: r => uptoBulkEntry x + uptoBulkEntries r
def uptoBulkEntry {H : Type} : Lit × DataW H → Nat
  | (.string bytes, d) => bytes.length + uptoBulk d + 1
  | (_, d) => uptoBulk d + 1
 end
def uptoSmall : (H : Type) → List (DataW H) → Bool := fun _ ds => decide (uptoBulkAll ds ≤ 1048576)
def OpenSpec.upto (s : _root_.Go.ChangeSpec) : _root_.Go.OpenSpec := { _root_.Go.OpenSpec.ofChange s with cond := some uptoSmall }

/-- 'understudylaw10.TreeSplits', WHERE WHAT IT READS IS OF BULK AT MOST 1048576: true; the input reads as it did. -/
def treeSplitsUptoRow : OpenClaim := { program := "ythmjcbmeiabbgaa", sum := "8f96e45b13af43b65b16d95993e3e6444324d59505e0276996b049bfec504b11", func := "understudy/understudylaw10.TreeSplits", spec := "treeSplits", inPlace := ["slices.overlaps[understudy/api.Entry]"], unfollowed := true, recurses := true, apart := false, narrowed := true }
def TreeSplitsUptoSaid : Prop := treeSplitsUptoRow.holds Try.pinned (OpenSpec.upto treeSplitsSpec)

/-- 'understudylaw10.TreeOrders', WHERE WHAT IT READS IS OF BULK AT MOST 1048576: true; the input reads as it did. -/
def treeOrdersUptoRow : OpenClaim := { program := "ythmjcbmeiabbgaa", sum := "8f96e45b13af43b65b16d95993e3e6444324d59505e0276996b049bfec504b11", func := "understudy/understudylaw10.TreeOrders", spec := "treeOrders", inPlace := ["slices.overlaps[understudy/api.Entry]"], unfollowed := true, recurses := true, apart := false, narrowed := true }
def TreeOrdersUptoSaid : Prop := treeOrdersUptoRow.holds Try.pinned (OpenSpec.upto treeOrdersSpec)

/-- 'understudylaw10.TreeNames', WHERE WHAT IT READS IS OF BULK AT MOST 1048576: true; the input reads as it did. -/
def treeNamesUptoRow : OpenClaim := { program := "ythmjcbmeiabbgaa", sum := "8f96e45b13af43b65b16d95993e3e6444324d59505e0276996b049bfec504b11", func := "understudy/understudylaw10.TreeNames", spec := "treeNames", inPlace := ["slices.overlaps[understudy/api.Entry]"], unfollowed := true, recurses := true, apart := false, narrowed := true }
def TreeNamesUptoSaid : Prop := treeNamesUptoRow.holds Try.pinned (OpenSpec.upto treeNamesSpec)

/-- 'understudylaw10.TreeRoom', WHERE WHAT IT READS IS OF BULK AT MOST 1048576: true; the input reads as it did. -/
def treeRoomUptoRow : OpenClaim := { program := "ythmjcbmeiabbgaa", sum := "8f96e45b13af43b65b16d95993e3e6444324d59505e0276996b049bfec504b11", func := "understudy/understudylaw10.TreeRoom", spec := "treeRoom", inPlace := ["slices.overlaps[understudy/api.Entry]"], unfollowed := true, recurses := true, apart := false, narrowed := true }
def TreeRoomUptoSaid : Prop := treeRoomUptoRow.holds Try.pinned (OpenSpec.upto treeRoomSpec)

/-- 'understudylaw11.PruneNames', WHERE WHAT IT READS IS OF BULK AT MOST 1048576: true; the input reads as it did. -/
def pruneNamesUptoRow : OpenClaim := { program := "ythmjcbmeiabbgaa", sum := "8f96e45b13af43b65b16d95993e3e6444324d59505e0276996b049bfec504b11", func := "understudy/understudylaw11.PruneNames", spec := "pruneNames", inPlace := ["slices.overlaps[understudy/api.Entry]"], unfollowed := true, recurses := true, apart := false, narrowed := true }
def PruneNamesUptoSaid : Prop := pruneNamesUptoRow.holds Try.pinned (OpenSpec.upto pruneNamesSpec)

/-- 'understudylaw09.NodesNames', WHERE WHAT IT READS IS OF BULK AT MOST 1048576: true; the input reads as it did. -/
def nodesNamesUptoRow : OpenClaim := { program := "ythmjcbmeiabbgaa", sum := "8f96e45b13af43b65b16d95993e3e6444324d59505e0276996b049bfec504b11", func := "understudy/understudylaw09.NodesNames", spec := "nodesNames", unfollowed := true, recurses := true, apart := false, narrowed := true }
def NodesNamesUptoSaid : Prop := nodesNamesUptoRow.holds Try.pinned (OpenSpec.upto nodesNamesSpec)

/-- 'understudylaw09.NodesBack', WHERE WHAT IT READS IS OF BULK AT MOST 1048576: true; the input reads as it did. -/
def nodesBackUptoRow : OpenClaim := { program := "ythmjcbmeiabbgaa", sum := "8f96e45b13af43b65b16d95993e3e6444324d59505e0276996b049bfec504b11", func := "understudy/understudylaw09.NodesBack", spec := "nodesBack", unfollowed := true, recurses := true, apart := false, narrowed := true }
def NodesBackUptoSaid : Prop := nodesBackUptoRow.holds Try.pinned (OpenSpec.upto nodesBackSpec)

/-- 'understudylaw09.NodesUndo', WHERE WHAT IT READS IS OF BULK AT MOST 1048576: true; the input reads as it did. -/
def nodesUndoUptoRow : OpenClaim := { program := "ythmjcbmeiabbgaa", sum := "8f96e45b13af43b65b16d95993e3e6444324d59505e0276996b049bfec504b11", func := "understudy/understudylaw09.NodesUndo", spec := "nodesUndo", unfollowed := true, recurses := true, apart := false, narrowed := true }
def NodesUndoUptoSaid : Prop := nodesUndoUptoRow.holds Try.pinned (OpenSpec.upto nodesUndoSpec)

/-- 'understudylaw09.NodesExact', WHERE WHAT IT READS IS OF BULK AT MOST 1048576: true; the input reads as it did. -/
def nodesExactUptoRow : OpenClaim := { program := "ythmjcbmeiabbgaa", sum := "8f96e45b13af43b65b16d95993e3e6444324d59505e0276996b049bfec504b11", func := "understudy/understudylaw09.NodesExact", spec := "nodesExact", unfollowed := true, recurses := true, apart := false, narrowed := true }
def NodesExactUptoSaid : Prop := nodesExactUptoRow.holds Try.pinned (OpenSpec.upto nodesExactSpec)

/-- 'understudylaw11.PruneDense', WHERE WHAT IT READS IS OF BULK AT MOST 1048576: true; the input reads as it did. -/
def pruneDenseUptoRow : OpenClaim := { program := "ythmjcbmeiabbgaa", sum := "8f96e45b13af43b65b16d95993e3e6444324d59505e0276996b049bfec504b11", func := "understudy/understudylaw11.PruneDense", spec := "pruneDense", inPlace := ["slices.overlaps[understudy/api.Entry]"], unfollowed := true, recurses := true, apart := false, narrowed := true }
def PruneDenseUptoSaid : Prop := pruneDenseUptoRow.holds Try.pinned (OpenSpec.upto pruneDenseSpec)

end Rows
end Go.Proofs.Ythmjcbmeiabbgaa
