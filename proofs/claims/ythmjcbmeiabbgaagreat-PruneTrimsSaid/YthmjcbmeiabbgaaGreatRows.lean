/-
  No cell of these rows narrows 'for every input' (looked for: loops, veiled, ifaces, maps, wideKeys, modest, calm, conditions, laid).
  DERIVED. THE GIVEN ROWS OF THIS SEAT. 5 by the template 'for every input the law returns true; each argument reads behind the call as it read before'; 0 by the template 'total and deterministic' (their statements: YthmjcbmeiabbgaaGreatTotals.lean).
  GIVEN WITH THE SEED: the statements are not yours to turn. If you find one false, say at which input.
  Laid BY PROGRAM, IN A SANDBOX (cutbox-rows.mjs): the forced cells as the released guide's own fill.sh prints them over the translation 306d5067e726fb70… (all of the seat's roots in one cut). By AI agents, Wed Nov 11 2026. No macro, syntax, notation, axiom, sorry.
-/
import Derived.Test.YthmjcbmeiabbgaaGreatChecked
import GoSem.Claim
import GoSem.ClaimJoined
import GoSem.ClaimMapViews
import Derived.JoinedTies
import Derived.KernelRfl
namespace Go.Proofs.YthmjcbmeiabbgaaGreat
/- THE CELL 'sum', in the pinned program and in every row, IS THE sha256 OF THE DUMP (.gsa) THAT YthmjcbmeiabbgaaGreatProg.lean LOADS. Nothing in Lean hashes anything: it is a label: what it is worth is what the hold of that sum in a sandbox is worth. -/
noncomputable def Tryz.pinned : Pinned := { name := "ythmjcbmeiabbgaagreat", sum := "306d5067e726fb701dd814a3e847285874fe60392b57edd960a596a30e9ca10f", checked := Tryz.checked }
namespace Rows
def none {H : Type} : Left H := { results := [], args := [] }

/-- 'understudylaw10.TreeBuilds': WHATEVER THE INPUT: true; the input reads as it did. -/
def treeBuildsSpec : ChangeSpec := { name := "treeBuilds", fn := fun _ => fun
  | [d] => { results := [.lit (.bool true)], args := [d] }
  | _ => none }
def treeBuildsRow : OpenClaim := { program := "ythmjcbmeiabbgaagreat", sum := "306d5067e726fb701dd814a3e847285874fe60392b57edd960a596a30e9ca10f", func := "understudy/understudylaw10.TreeBuilds", spec := "treeBuilds", inPlace := ["slices.overlaps[understudy/api.Entry]"], unfollowed := true, recurses := true, apart := false }
def TreeBuildsSaid : Prop := treeBuildsRow.holds Tryz.pinned (OpenSpec.ofChange treeBuildsSpec)

/-- ITS FALSE NEIGHBOUR: 'it returns false'. Refute it at one input. -/
def treeBuildsWrong : ChangeSpec := { name := "treeBuilds", fn := fun _ => fun
  | [d] => { results := [.lit (.bool false)], args := [d] }
  | _ => none }
def TreeBuildsWrongFalsely : Prop := treeBuildsRow.holds Tryz.pinned (OpenSpec.ofChange treeBuildsWrong)

/-- 'understudylaw10.TreePuts': WHATEVER THE INPUT: true; the input reads as it did. -/
def treePutsSpec : ChangeSpec := { name := "treePuts", fn := fun _ => fun
  | [d1, d2] => { results := [.lit (.bool true)], args := [d1, d2] }
  | _ => none }
def treePutsRow : OpenClaim := { program := "ythmjcbmeiabbgaagreat", sum := "306d5067e726fb701dd814a3e847285874fe60392b57edd960a596a30e9ca10f", func := "understudy/understudylaw10.TreePuts", spec := "treePuts", inPlace := ["slices.overlaps[understudy/api.Entry]"], unfollowed := true, recurses := true, apart := false }
def TreePutsSaid : Prop := treePutsRow.holds Tryz.pinned (OpenSpec.ofChange treePutsSpec)

/-- ITS FALSE NEIGHBOUR: 'it returns false'. Refute it at one input. -/
def treePutsWrong : ChangeSpec := { name := "treePuts", fn := fun _ => fun
  | [d1, d2] => { results := [.lit (.bool false)], args := [d1, d2] }
  | _ => none }
def TreePutsWrongFalsely : Prop := treePutsRow.holds Tryz.pinned (OpenSpec.ofChange treePutsWrong)

/-- 'understudylaw11.PruneCuts': WHATEVER THE INPUT: true; the input reads as it did. -/
def pruneCutsSpec : ChangeSpec := { name := "pruneCuts", fn := fun _ => fun
  | [d] => { results := [.lit (.bool true)], args := [d] }
  | _ => none }
def pruneCutsRow : OpenClaim := { program := "ythmjcbmeiabbgaagreat", sum := "306d5067e726fb701dd814a3e847285874fe60392b57edd960a596a30e9ca10f", func := "understudy/understudylaw11.PruneCuts", spec := "pruneCuts", inPlace := ["slices.overlaps[understudy/api.Entry]"], unfollowed := true, recurses := true, apart := false }
def PruneCutsSaid : Prop := pruneCutsRow.holds Tryz.pinned (OpenSpec.ofChange pruneCutsSpec)

/-- ITS FALSE NEIGHBOUR: 'it returns false'. Refute it at one input. -/
def pruneCutsWrong : ChangeSpec := { name := "pruneCuts", fn := fun _ => fun
  | [d] => { results := [.lit (.bool false)], args := [d] }
  | _ => none }
def PruneCutsWrongFalsely : Prop := pruneCutsRow.holds Tryz.pinned (OpenSpec.ofChange pruneCutsWrong)

/-- 'understudylaw11.PruneTrims': WHATEVER THE INPUT: true; the input reads as it did. -/
def pruneTrimsSpec : ChangeSpec := { name := "pruneTrims", fn := fun _ => fun
  | [d1, d2] => { results := [.lit (.bool true)], args := [d1, d2] }
  | _ => none }
def pruneTrimsRow : OpenClaim := { program := "ythmjcbmeiabbgaagreat", sum := "306d5067e726fb701dd814a3e847285874fe60392b57edd960a596a30e9ca10f", func := "understudy/understudylaw11.PruneTrims", spec := "pruneTrims", inPlace := ["slices.overlaps[understudy/api.Entry]"], unfollowed := true, recurses := true, apart := false }
def PruneTrimsSaid : Prop := pruneTrimsRow.holds Tryz.pinned (OpenSpec.ofChange pruneTrimsSpec)

/-- ITS FALSE NEIGHBOUR: 'it returns false'. Refute it at one input. -/
def pruneTrimsWrong : ChangeSpec := { name := "pruneTrims", fn := fun _ => fun
  | [d1, d2] => { results := [.lit (.bool false)], args := [d1, d2] }
  | _ => none }
def PruneTrimsWrongFalsely : Prop := pruneTrimsRow.holds Tryz.pinned (OpenSpec.ofChange pruneTrimsWrong)

/-- 'understudylaw11.PruneBack': WHATEVER THE INPUT: true; the input reads as it did. -/
def pruneBackSpec : ChangeSpec := { name := "pruneBack", fn := fun _ => fun
  | [d1, d2] => { results := [.lit (.bool true)], args := [d1, d2] }
  | _ => none }
def pruneBackRow : OpenClaim := { program := "ythmjcbmeiabbgaagreat", sum := "306d5067e726fb701dd814a3e847285874fe60392b57edd960a596a30e9ca10f", func := "understudy/understudylaw11.PruneBack", spec := "pruneBack", inPlace := ["slices.overlaps[understudy/api.Entry]"], unfollowed := true, recurses := true, apart := false }
def PruneBackSaid : Prop := pruneBackRow.holds Tryz.pinned (OpenSpec.ofChange pruneBackSpec)

/-- ITS FALSE NEIGHBOUR: 'it returns false'. Refute it at one input. -/
def pruneBackWrong : ChangeSpec := { name := "pruneBack", fn := fun _ => fun
  | [d1, d2] => { results := [.lit (.bool false)], args := [d1, d2] }
  | _ => none }
def PruneBackWrongFalsely : Prop := pruneBackRow.holds Tryz.pinned (OpenSpec.ofChange pruneBackWrong)

/- THE SECOND FORM. 'bulk': how many values and letters a reading holds, each counted each time it is reached (what is shared counts as often as it is met; a slice's spare places count too). A statement '..UptoSaid' is the law's where the arguments, and the package variables that the reading takes, are together of bulk at most 1048576: NARROWER than '..Said'. Prove '..Said' where nothing that the law and all that it calls make is longer than what came in: it says more and counts as full. Else prove '..UptoSaid'. A law counts once. -/
mutual
def uptoBulk {H : Type} : DataW H → Nat
  | .lit (.string bytes) => bytes.length + 1
  | .lit _ => 1
  | .nil => 1
  | .ptr d => uptoBulk d + 1
  | .slice elems spare => uptoBulkAll elems + uptoBulkAll spare + 1
  | .agg parts => uptoBulkAll parts + 1
  | .iface _ d => uptoBulk d + 1
  | .map entries => uptoBulkEntries entries + 1
  | .held _ => 1
def uptoBulkAll {H : Type} : List (DataW H) → Nat
  | [] => 0
  | d :: r => uptoBulk d + uptoBulkAll r
def uptoBulkEntries {H : Type} : List (Lit × DataW H) → Nat
  | [] => 0
  | x :: r => uptoBulkEntry x + uptoBulkEntries r
def uptoBulkEntry {H : Type} : Lit × DataW H → Nat
  | (.string bytes, d) => bytes.length + uptoBulk d + 1
  | (_, d) => uptoBulk d + 1
 end
def uptoSmall : (H : Type) → List (DataW H) → Bool := fun _ ds => decide (uptoBulkAll ds ≤ 1048576)
def OpenSpec.upto (s : _root_.Go.ChangeSpec) : _root_.Go.OpenSpec := { _root_.Go.OpenSpec.ofChange s with cond := some uptoSmall }

/-- 'understudylaw10.TreeBuilds', WHERE WHAT IT READS IS OF BULK AT MOST 1048576: true; the input reads as it did. -/
def treeBuildsUptoRow : OpenClaim := { program := "ythmjcbmeiabbgaagreat", sum := "306d5067e726fb701dd814a3e847285874fe60392b57edd960a596a30e9ca10f", func := "understudy/understudylaw10.TreeBuilds", spec := "treeBuilds", inPlace := ["slices.overlaps[understudy/api.Entry]"], unfollowed := true, recurses := true, apart := false, narrowed := true }
def TreeBuildsUptoSaid : Prop := treeBuildsUptoRow.holds Tryz.pinned (OpenSpec.upto treeBuildsSpec)

/-- 'understudylaw10.TreePuts', WHERE WHAT IT READS IS OF BULK AT MOST 1048576: true; the input reads as it did. -/
def treePutsUptoRow : OpenClaim := { program := "ythmjcbmeiabbgaagreat", sum := "306d5067e726fb701dd814a3e847285874fe60392b57edd960a596a30e9ca10f", func := "understudy/understudylaw10.TreePuts", spec := "treePuts", inPlace := ["slices.overlaps[understudy/api.Entry]"], unfollowed := true, recurses := true, apart := false, narrowed := true }
def TreePutsUptoSaid : Prop := treePutsUptoRow.holds Tryz.pinned (OpenSpec.upto treePutsSpec)

/-- 'understudylaw11.PruneCuts', WHERE WHAT IT READS IS OF BULK AT MOST 1048576: true; the input reads as it did. -/
def pruneCutsUptoRow : OpenClaim := { program := "ythmjcbmeiabbgaagreat", sum := "306d5067e726fb701dd814a3e847285874fe60392b57edd960a596a30e9ca10f", func := "understudy/understudylaw11.PruneCuts", spec := "pruneCuts", inPlace := ["slices.overlaps[understudy/api.Entry]"], unfollowed := true, recurses := true, apart := false, narrowed := true }
def PruneCutsUptoSaid : Prop := pruneCutsUptoRow.holds Tryz.pinned (OpenSpec.upto pruneCutsSpec)

/-- 'understudylaw11.PruneTrims', WHERE WHAT IT READS IS OF BULK AT MOST 1048576: true; the input reads as it did. -/
def pruneTrimsUptoRow : OpenClaim := { program := "ythmjcbmeiabbgaagreat", sum := "306d5067e726fb701dd814a3e847285874fe60392b57edd960a596a30e9ca10f", func := "understudy/understudylaw11.PruneTrims", spec := "pruneTrims", inPlace := ["slices.overlaps[understudy/api.Entry]"], unfollowed := true, recurses := true, apart := false, narrowed := true }
def PruneTrimsUptoSaid : Prop := pruneTrimsUptoRow.holds Tryz.pinned (OpenSpec.upto pruneTrimsSpec)

/-- 'understudylaw11.PruneBack', WHERE WHAT IT READS IS OF BULK AT MOST 1048576: true; the input reads as it did. -/
def pruneBackUptoRow : OpenClaim := { program := "ythmjcbmeiabbgaagreat", sum := "306d5067e726fb701dd814a3e847285874fe60392b57edd960a596a30e9ca10f", func := "understudy/understudylaw11.PruneBack", spec := "pruneBack", inPlace := ["slices.overlaps[understudy/api.Entry]"], unfollowed := true, recurses := true, apart := false, narrowed := true }
def PruneBackUptoSaid : Prop := pruneBackUptoRow.holds Tryz.pinned (OpenSpec.upto pruneBackSpec)

end Rows
end Go.Proofs.YthmjcbmeiabbgaaGreat
