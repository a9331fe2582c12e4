/-
  No cell of these rows narrows 'for every input' (looked for: loops, veiled, ifaces, maps, wideKeys, modest, calm, conditions, laid).
  DERIVED. THE GIVEN ROWS OF THIS SEAT. 13 by the template 'for every input the law returns true; each argument reads behind the call as it read before'; 0 by the template 'total and deterministic' (their statements: YtidlchciehdefaaGreatTotals.lean).
  GIVEN WITH THE SEED: the statements are not yours to turn. If you find one false, say at which input.
  Laid BY PROGRAM, IN A SANDBOX (cutbox-rows.mjs): the forced cells as the released guide's own fill.sh prints them over the translation 7019a58cb597e3f4… (all of the seat's roots in one cut). By AI agents, Wed Nov 11 2026. No macro, syntax, notation, axiom, sorry.
-/
import Derived.Test.YtidlchciehdefaaGreatChecked
import GoSem.Claim
import GoSem.ClaimJoined
import GoSem.ClaimMapViews
import Derived.JoinedTies
import Derived.KernelRfl
namespace Go.Proofs.YtidlchciehdefaaGreat
/- THE CELL 'sum', in the pinned program and in every row, IS THE sha256 OF THE DUMP (.gsa) THAT YtidlchciehdefaaGreatProg.lean LOADS. Nothing in Lean hashes anything: it is a label: what it is worth is what the hold of that sum in a sandbox is worth. -/
noncomputable def Tryz.pinned : Pinned := { name := "ytidlchciehdefaagreat", sum := "7019a58cb597e3f4f98fc8046eb19c789e0226bded9fdaf1e867ede8a68e479a", checked := Tryz.checked }
namespace Rows
def none {H : Type} : Left H := { results := [], args := [] }

/-- 'understudylaw13.ImageReads': WHATEVER THE INPUT: true; the input reads as it did. -/
def imageReadsSpec : ChangeSpec := { name := "imageReads", fn := fun _ => fun
  | [d1, d2] => { results := [.lit (.bool true)], args := [d1, d2] }
  | _ => none }
def imageReadsRow : OpenClaim := { program := "ytidlchciehdefaagreat", sum := "7019a58cb597e3f4f98fc8046eb19c789e0226bded9fdaf1e867ede8a68e479a", func := "understudy/understudylaw13.ImageReads", spec := "imageReads", inPlace := ["slices.overlaps[understudy/api.Entry]"], unfollowed := true, recurses := true, apart := false }
def ImageReadsSaid : Prop := imageReadsRow.holds Tryz.pinned (OpenSpec.ofChange imageReadsSpec)

/-- ITS FALSE NEIGHBOUR: 'it returns false'. Refute it at one input. -/
def imageReadsWrong : ChangeSpec := { name := "imageReads", fn := fun _ => fun
  | [d1, d2] => { results := [.lit (.bool false)], args := [d1, d2] }
  | _ => none }
def ImageReadsWrongFalsely : Prop := imageReadsRow.holds Tryz.pinned (OpenSpec.ofChange imageReadsWrong)

/-- 'understudylaw13.ImageSums': WHATEVER THE INPUT: true; the input reads as it did. -/
def imageSumsSpec : ChangeSpec := { name := "imageSums", fn := fun _ => fun
  | [d1, d2, d3] => { results := [.lit (.bool true)], args := [d1, d2, d3] }
  | _ => none }
def imageSumsRow : OpenClaim := { program := "ytidlchciehdefaagreat", sum := "7019a58cb597e3f4f98fc8046eb19c789e0226bded9fdaf1e867ede8a68e479a", func := "understudy/understudylaw13.ImageSums", spec := "imageSums", inPlace := ["slices.overlaps[understudy/api.Entry]"], unfollowed := true, recurses := true, apart := false }
def ImageSumsSaid : Prop := imageSumsRow.holds Tryz.pinned (OpenSpec.ofChange imageSumsSpec)

/-- ITS FALSE NEIGHBOUR: 'it returns false'. Refute it at one input. -/
def imageSumsWrong : ChangeSpec := { name := "imageSums", fn := fun _ => fun
  | [d1, d2, d3] => { results := [.lit (.bool false)], args := [d1, d2, d3] }
  | _ => none }
def ImageSumsWrongFalsely : Prop := imageSumsRow.holds Tryz.pinned (OpenSpec.ofChange imageSumsWrong)

/-- 'understudylaw13.ImageRoom': WHATEVER THE INPUT: true; the input reads as it did. -/
def imageRoomSpec : ChangeSpec := { name := "imageRoom", fn := fun _ => fun
  | [d] => { results := [.lit (.bool true)], args := [d] }
  | _ => none }
def imageRoomRow : OpenClaim := { program := "ytidlchciehdefaagreat", sum := "7019a58cb597e3f4f98fc8046eb19c789e0226bded9fdaf1e867ede8a68e479a", func := "understudy/understudylaw13.ImageRoom", spec := "imageRoom", inPlace := ["slices.overlaps[understudy/api.Entry]"], unfollowed := true, recurses := true, apart := false }
def ImageRoomSaid : Prop := imageRoomRow.holds Tryz.pinned (OpenSpec.ofChange imageRoomSpec)

/-- ITS FALSE NEIGHBOUR: 'it returns false'. Refute it at one input. -/
def imageRoomWrong : ChangeSpec := { name := "imageRoom", fn := fun _ => fun
  | [d] => { results := [.lit (.bool false)], args := [d] }
  | _ => none }
def ImageRoomWrongFalsely : Prop := imageRoomRow.holds Tryz.pinned (OpenSpec.ofChange imageRoomWrong)

/-- 'understudylaw13.ImageNames': WHATEVER THE INPUT: true; the input reads as it did. -/
def imageNamesSpec : ChangeSpec := { name := "imageNames", fn := fun _ => fun
  | [] => { results := [.lit (.bool true)], args := [] }
  | _ => none }
def imageNamesRow : OpenClaim := { program := "ytidlchciehdefaagreat", sum := "7019a58cb597e3f4f98fc8046eb19c789e0226bded9fdaf1e867ede8a68e479a", func := "understudy/understudylaw13.ImageNames", spec := "imageNames", inPlace := ["slices.overlaps[understudy/api.Entry]"], unfollowed := true, recurses := true, apart := false }
def ImageNamesSaid : Prop := imageNamesRow.holds Tryz.pinned (OpenSpec.ofChange imageNamesSpec)

/-- ITS FALSE NEIGHBOUR: 'it returns false'. Refute it at one input. -/
def imageNamesWrong : ChangeSpec := { name := "imageNames", fn := fun _ => fun
  | [] => { results := [.lit (.bool false)], args := [] }
  | _ => none }
def ImageNamesWrongFalsely : Prop := imageNamesRow.holds Tryz.pinned (OpenSpec.ofChange imageNamesWrong)

/-- 'understudylaw17.DeltaNames': WHATEVER THE INPUT: true; the input reads as it did. -/
def deltaNamesSpec : ChangeSpec := { name := "deltaNames", fn := fun _ => fun
  | [] => { results := [.lit (.bool true)], args := [] }
  | _ => none }
def deltaNamesRow : OpenClaim := { program := "ytidlchciehdefaagreat", sum := "7019a58cb597e3f4f98fc8046eb19c789e0226bded9fdaf1e867ede8a68e479a", func := "understudy/understudylaw17.DeltaNames", spec := "deltaNames", inPlace := ["slices.overlaps[understudy/api.Entry]"], unfollowed := true, recurses := true, apart := false }
def DeltaNamesSaid : Prop := deltaNamesRow.holds Tryz.pinned (OpenSpec.ofChange deltaNamesSpec)

/-- ITS FALSE NEIGHBOUR: 'it returns false'. Refute it at one input. -/
def deltaNamesWrong : ChangeSpec := { name := "deltaNames", fn := fun _ => fun
  | [] => { results := [.lit (.bool false)], args := [] }
  | _ => none }
def DeltaNamesWrongFalsely : Prop := deltaNamesRow.holds Tryz.pinned (OpenSpec.ofChange deltaNamesWrong)

/-- 'understudylaw17.DeltaChunks': WHATEVER THE INPUT: true; the input reads as it did. -/
def deltaChunksSpec : ChangeSpec := { name := "deltaChunks", fn := fun _ => fun
  | [d1, d2, d3] => { results := [.lit (.bool true)], args := [d1, d2, d3] }
  | _ => none }
def deltaChunksRow : OpenClaim := { program := "ytidlchciehdefaagreat", sum := "7019a58cb597e3f4f98fc8046eb19c789e0226bded9fdaf1e867ede8a68e479a", func := "understudy/understudylaw17.DeltaChunks", spec := "deltaChunks", inPlace := ["slices.overlaps[understudy/api.Entry]"], unfollowed := true, recurses := true, apart := false }
def DeltaChunksSaid : Prop := deltaChunksRow.holds Tryz.pinned (OpenSpec.ofChange deltaChunksSpec)

/-- ITS FALSE NEIGHBOUR: 'it returns false'. Refute it at one input. -/
def deltaChunksWrong : ChangeSpec := { name := "deltaChunks", fn := fun _ => fun
  | [d1, d2, d3] => { results := [.lit (.bool false)], args := [d1, d2, d3] }
  | _ => none }
def DeltaChunksWrongFalsely : Prop := deltaChunksRow.holds Tryz.pinned (OpenSpec.ofChange deltaChunksWrong)

/-- 'understudylaw17.DeltaRights': WHATEVER THE INPUT: true; the input reads as it did. -/
def deltaRightsSpec : ChangeSpec := { name := "deltaRights", fn := fun _ => fun
  | [d] => { results := [.lit (.bool true)], args := [d] }
  | _ => none }
def deltaRightsRow : OpenClaim := { program := "ytidlchciehdefaagreat", sum := "7019a58cb597e3f4f98fc8046eb19c789e0226bded9fdaf1e867ede8a68e479a", func := "understudy/understudylaw17.DeltaRights", spec := "deltaRights", inPlace := ["slices.overlaps[understudy/api.Entry]"], unfollowed := true, recurses := true, apart := false }
def DeltaRightsSaid : Prop := deltaRightsRow.holds Tryz.pinned (OpenSpec.ofChange deltaRightsSpec)

/-- ITS FALSE NEIGHBOUR: 'it returns false'. Refute it at one input. -/
def deltaRightsWrong : ChangeSpec := { name := "deltaRights", fn := fun _ => fun
  | [d] => { results := [.lit (.bool false)], args := [d] }
  | _ => none }
def DeltaRightsWrongFalsely : Prop := deltaRightsRow.holds Tryz.pinned (OpenSpec.ofChange deltaRightsWrong)

/-- 'understudylaw17.DeltaApplies': WHATEVER THE INPUT: true; the input reads as it did. -/
def deltaAppliesSpec : ChangeSpec := { name := "deltaApplies", fn := fun _ => fun
  | [d1, d2, d3] => { results := [.lit (.bool true)], args := [d1, d2, d3] }
  | _ => none }
def deltaAppliesRow : OpenClaim := { program := "ytidlchciehdefaagreat", sum := "7019a58cb597e3f4f98fc8046eb19c789e0226bded9fdaf1e867ede8a68e479a", func := "understudy/understudylaw17.DeltaApplies", spec := "deltaApplies", inPlace := ["slices.overlaps[understudy/api.Entry]"], unfollowed := true, recurses := true, apart := false }
def DeltaAppliesSaid : Prop := deltaAppliesRow.holds Tryz.pinned (OpenSpec.ofChange deltaAppliesSpec)

/-- ITS FALSE NEIGHBOUR: 'it returns false'. Refute it at one input. -/
def deltaAppliesWrong : ChangeSpec := { name := "deltaApplies", fn := fun _ => fun
  | [d1, d2, d3] => { results := [.lit (.bool false)], args := [d1, d2, d3] }
  | _ => none }
def DeltaAppliesWrongFalsely : Prop := deltaAppliesRow.holds Tryz.pinned (OpenSpec.ofChange deltaAppliesWrong)

/-- 'understudylaw17.DeltaCarries': WHATEVER THE INPUT: true; the input reads as it did. -/
def deltaCarriesSpec : ChangeSpec := { name := "deltaCarries", fn := fun _ => fun
  | [d1, d2, d3] => { results := [.lit (.bool true)], args := [d1, d2, d3] }
  | _ => none }
def deltaCarriesRow : OpenClaim := { program := "ytidlchciehdefaagreat", sum := "7019a58cb597e3f4f98fc8046eb19c789e0226bded9fdaf1e867ede8a68e479a", func := "understudy/understudylaw17.DeltaCarries", spec := "deltaCarries", inPlace := ["slices.overlaps[understudy/api.Entry]"], unfollowed := true, recurses := true, apart := false }
def DeltaCarriesSaid : Prop := deltaCarriesRow.holds Tryz.pinned (OpenSpec.ofChange deltaCarriesSpec)

/-- ITS FALSE NEIGHBOUR: 'it returns false'. Refute it at one input. -/
def deltaCarriesWrong : ChangeSpec := { name := "deltaCarries", fn := fun _ => fun
  | [d1, d2, d3] => { results := [.lit (.bool false)], args := [d1, d2, d3] }
  | _ => none }
def DeltaCarriesWrongFalsely : Prop := deltaCarriesRow.holds Tryz.pinned (OpenSpec.ofChange deltaCarriesWrong)

/-- 'understudylaw17.DeltaBack': WHATEVER THE INPUT: true; the input reads as it did. -/
def deltaBackSpec : ChangeSpec := { name := "deltaBack", fn := fun _ => fun
  | [d1, d2] => { results := [.lit (.bool true)], args := [d1, d2] }
  | _ => none }
def deltaBackRow : OpenClaim := { program := "ytidlchciehdefaagreat", sum := "7019a58cb597e3f4f98fc8046eb19c789e0226bded9fdaf1e867ede8a68e479a", func := "understudy/understudylaw17.DeltaBack", spec := "deltaBack", inPlace := ["slices.overlaps[understudy/api.Entry]"], unfollowed := true, recurses := true, apart := false }
def DeltaBackSaid : Prop := deltaBackRow.holds Tryz.pinned (OpenSpec.ofChange deltaBackSpec)

/-- ITS FALSE NEIGHBOUR: 'it returns false'. Refute it at one input. -/
def deltaBackWrong : ChangeSpec := { name := "deltaBack", fn := fun _ => fun
  | [d1, d2] => { results := [.lit (.bool false)], args := [d1, d2] }
  | _ => none }
def DeltaBackWrongFalsely : Prop := deltaBackRow.holds Tryz.pinned (OpenSpec.ofChange deltaBackWrong)

/-- 'understudylaw12.DiffNames': WHATEVER THE INPUT: true; the input reads as it did. -/
def diffNamesSpec : ChangeSpec := { name := "diffNames", fn := fun _ => fun
  | [] => { results := [.lit (.bool true)], args := [] }
  | _ => none }
def diffNamesRow : OpenClaim := { program := "ytidlchciehdefaagreat", sum := "7019a58cb597e3f4f98fc8046eb19c789e0226bded9fdaf1e867ede8a68e479a", func := "understudy/understudylaw12.DiffNames", spec := "diffNames", inPlace := ["slices.overlaps[understudy/api.Entry]"], unfollowed := true, recurses := true, apart := false }
def DiffNamesSaid : Prop := diffNamesRow.holds Tryz.pinned (OpenSpec.ofChange diffNamesSpec)

/-- ITS FALSE NEIGHBOUR: 'it returns false'. Refute it at one input. -/
def diffNamesWrong : ChangeSpec := { name := "diffNames", fn := fun _ => fun
  | [] => { results := [.lit (.bool false)], args := [] }
  | _ => none }
def DiffNamesWrongFalsely : Prop := diffNamesRow.holds Tryz.pinned (OpenSpec.ofChange diffNamesWrong)

/-- 'understudylaw12.DiffShares': WHATEVER THE INPUT: true; the input reads as it did. -/
def diffSharesSpec : ChangeSpec := { name := "diffShares", fn := fun _ => fun
  | [d1, d2] => { results := [.lit (.bool true)], args := [d1, d2] }
  | _ => none }
def diffSharesRow : OpenClaim := { program := "ytidlchciehdefaagreat", sum := "7019a58cb597e3f4f98fc8046eb19c789e0226bded9fdaf1e867ede8a68e479a", func := "understudy/understudylaw12.DiffShares", spec := "diffShares", inPlace := ["slices.overlaps[understudy/api.Entry]"], unfollowed := true, recurses := true, apart := false }
def DiffSharesSaid : Prop := diffSharesRow.holds Tryz.pinned (OpenSpec.ofChange diffSharesSpec)

/-- ITS FALSE NEIGHBOUR: 'it returns false'. Refute it at one input. -/
def diffSharesWrong : ChangeSpec := { name := "diffShares", fn := fun _ => fun
  | [d1, d2] => { results := [.lit (.bool false)], args := [d1, d2] }
  | _ => none }
def DiffSharesWrongFalsely : Prop := diffSharesRow.holds Tryz.pinned (OpenSpec.ofChange diffSharesWrong)

/-- 'understudylaw13.ImageRuns': WHATEVER THE INPUT: true; the input reads as it did. -/
def imageRunsSpec : ChangeSpec := { name := "imageRuns", fn := fun _ => fun
  | [d1, d2] => { results := [.lit (.bool true)], args := [d1, d2] }
  | _ => none }
def imageRunsRow : OpenClaim := { program := "ytidlchciehdefaagreat", sum := "7019a58cb597e3f4f98fc8046eb19c789e0226bded9fdaf1e867ede8a68e479a", func := "understudy/understudylaw13.ImageRuns", spec := "imageRuns", inPlace := ["slices.overlaps[understudy/api.Entry]"], unfollowed := true, recurses := true, apart := false }
def ImageRunsSaid : Prop := imageRunsRow.holds Tryz.pinned (OpenSpec.ofChange imageRunsSpec)

/-- ITS FALSE NEIGHBOUR: 'it returns false'. Refute it at one input. -/
def imageRunsWrong : ChangeSpec := { name := "imageRuns", fn := fun _ => fun
  | [d1, d2] => { results := [.lit (.bool false)], args := [d1, d2] }
  | _ => none }
def ImageRunsWrongFalsely : Prop := imageRunsRow.holds Tryz.pinned (OpenSpec.ofChange imageRunsWrong)

/- THE SECOND FORM. 'bulk': how many values and letters a reading holds, each counted each time it is reached (what is shared counts as often as it is met; a slice's spare places count too). A statement '..UptoSaid' is the law's where the arguments, and the package variables that the reading takes, are together of bulk at most 1048576: NARROWER than '..Said'. Prove '..Said' where nothing that the law and all that it calls make is longer than what came in: it says more and counts as full. Else prove '..UptoSaid'. A law counts once. -/
mutual
def uptoBulk {H : Type} : DataW H → Nat
  | .lit (.string bytes) => bytes.length + 1
  | .lit _ => 1
  | .nil => 1
  | .ptr d => uptoBulk d + 1
  | .slice elems spare => uptoBulkAll elems + uptoBulkAll spare + 1
  | .agg parts => uptoBulkAll parts + 1
  | .iface _ d => uptoBulk d + 1
  | .map entries => uptoBulkEntries entries + 1
  | .held _ => 1
def uptoBulkAll {H : Type} : List (DataW H) → Nat
  | [] => 0
  | d :: r => uptoBulk d + uptoBulkAll r
def uptoBulkEntries {H : Type} : List (Lit × DataW H) → Nat
  | [] => 0
  | x :: r => uptoBulkEntry x + uptoBulkEntries r
def uptoBulkEntry {H : Type} : Lit × DataW H → Nat
  | (.string bytes, d) => bytes.length + uptoBulk d + 1
  | (_, d) => uptoBulk d + 1
 end
def uptoSmall : (H : Type) → List (DataW H) → Bool := fun _ ds => decide (uptoBulkAll ds ≤ 1048576)
def OpenSpec.upto (s : _root_.Go.ChangeSpec) : _root_.Go.OpenSpec := { _root_.Go.OpenSpec.ofChange s with cond := some uptoSmall }

/-- 'understudylaw13.ImageReads', WHERE WHAT IT READS IS OF BULK AT MOST 1048576: true; the input reads as it did. -/
def imageReadsUptoRow : OpenClaim := { program := "ytidlchciehdefaagreat", sum := "7019a58cb597e3f4f98fc8046eb19c789e0226bded9fdaf1e867ede8a68e479a", func := "understudy/understudylaw13.ImageReads", spec := "imageReads", inPlace := ["slices.overlaps[understudy/api.Entry]"], unfollowed := true, recurses := true, apart := false, narrowed := true }
def ImageReadsUptoSaid : Prop := imageReadsUptoRow.holds Tryz.pinned (OpenSpec.upto imageReadsSpec)

/-- 'understudylaw13.ImageSums', WHERE WHAT IT READS IS OF BULK AT MOST 1048576: true; the input reads as it did. -/
def imageSumsUptoRow : OpenClaim := { program := "ytidlchciehdefaagreat", sum := "7019a58cb597e3f4f98fc8046eb19c789e0226bded9fdaf1e867ede8a68e479a", func := "understudy/understudylaw13.ImageSums", spec := "imageSums", inPlace := ["slices.overlaps[understudy/api.Entry]"], unfollowed := true, recurses := true, apart := false, narrowed := true }
def ImageSumsUptoSaid : Prop := imageSumsUptoRow.holds Tryz.pinned (OpenSpec.upto imageSumsSpec)

/-- 'understudylaw13.ImageRoom', WHERE WHAT IT READS IS OF BULK AT MOST 1048576: true; the input reads as it did. -/
def imageRoomUptoRow : OpenClaim := { program := "ytidlchciehdefaagreat", sum := "7019a58cb597e3f4f98fc8046eb19c789e0226bded9fdaf1e867ede8a68e479a", func := "understudy/understudylaw13.ImageRoom", spec := "imageRoom", inPlace := ["slices.overlaps[understudy/api.Entry]"], unfollowed := true, recurses := true, apart := false, narrowed := true }
def ImageRoomUptoSaid : Prop := imageRoomUptoRow.holds Tryz.pinned (OpenSpec.upto imageRoomSpec)

/-- 'understudylaw13.ImageNames', WHERE WHAT IT READS IS OF BULK AT MOST 1048576: true; the input reads as it did. -/
def imageNamesUptoRow : OpenClaim := { program := "ytidlchciehdefaagreat", sum := "7019a58cb597e3f4f98fc8046eb19c789e0226bded9fdaf1e867ede8a68e479a", func := "understudy/understudylaw13.ImageNames", spec := "imageNames", inPlace := ["slices.overlaps[understudy/api.Entry]"], unfollowed := true, recurses := true, apart := false, narrowed := true }
def ImageNamesUptoSaid : Prop := imageNamesUptoRow.holds Tryz.pinned (OpenSpec.upto imageNamesSpec)

/-- 'understudylaw17.DeltaNames', WHERE WHAT IT READS IS OF BULK AT MOST 1048576: true; the input reads as it did. -/
def deltaNamesUptoRow : OpenClaim := { program := "ytidlchciehdefaagreat", sum := "7019a58cb597e3f4f98fc8046eb19c789e0226bded9fdaf1e867ede8a68e479a", func := "understudy/understudylaw17.DeltaNames", spec := "deltaNames", inPlace := ["slices.overlaps[understudy/api.Entry]"], unfollowed := true, recurses := true, apart := false, narrowed := true }
def DeltaNamesUptoSaid : Prop := deltaNamesUptoRow.holds Tryz.pinned (OpenSpec.upto deltaNamesSpec)

/-- 'understudylaw17.DeltaChunks', WHERE WHAT IT READS IS OF BULK AT MOST 1048576: true; the input reads as it did. -/
def deltaChunksUptoRow : OpenClaim := { program := "ytidlchciehdefaagreat", sum := "7019a58cb597e3f4f98fc8046eb19c789e0226bded9fdaf1e867ede8a68e479a", func := "understudy/understudylaw17.DeltaChunks", spec := "deltaChunks", inPlace := ["slices.overlaps[understudy/api.Entry]"], unfollowed := true, recurses := true, apart := false, narrowed := true }
def DeltaChunksUptoSaid : Prop := deltaChunksUptoRow.holds Tryz.pinned (OpenSpec.upto deltaChunksSpec)

/-- 'understudylaw17.DeltaRights', WHERE WHAT IT READS IS OF BULK AT MOST 1048576: true; the input reads as it did. -/
def deltaRightsUptoRow : OpenClaim := { program := "ytidlchciehdefaagreat", sum := "7019a58cb597e3f4f98fc8046eb19c789e0226bded9fdaf1e867ede8a68e479a", func := "understudy/understudylaw17.DeltaRights", spec := "deltaRights", inPlace := ["slices.overlaps[understudy/api.Entry]"], unfollowed := true, recurses := true, apart := false, narrowed := true }
def DeltaRightsUptoSaid : Prop := deltaRightsUptoRow.holds Tryz.pinned (OpenSpec.upto deltaRightsSpec)

/-- 'understudylaw17.DeltaApplies', WHERE WHAT IT READS IS OF BULK AT MOST 1048576: true; the input reads as it did. -/
def deltaAppliesUptoRow : OpenClaim := { program := "ytidlchciehdefaagreat", sum := "7019a58cb597e3f4f98fc8046eb19c789e0226bded9fdaf1e867ede8a68e479a", func := "understudy/understudylaw17.DeltaApplies", spec := "deltaApplies", inPlace := ["slices.overlaps[understudy/api.Entry]"], unfollowed := true, recurses := true, apart := false, narrowed := true }
def DeltaAppliesUptoSaid : Prop := deltaAppliesUptoRow.holds Tryz.pinned (OpenSpec.upto deltaAppliesSpec)

/-- 'understudylaw17.DeltaCarries', WHERE WHAT IT READS IS OF BULK AT MOST 1048576: true; the input reads as it did. -/
def deltaCarriesUptoRow : OpenClaim := { program := "ytidlchciehdefaagreat", sum := "7019a58cb597e3f4f98fc8046eb19c789e0226bded9fdaf1e867ede8a68e479a", func := "understudy/understudylaw17.DeltaCarries", spec := "deltaCarries", inPlace := ["slices.overlaps[understudy/api.Entry]"], unfollowed := true, recurses := true, apart := false, narrowed := true }
def DeltaCarriesUptoSaid : Prop := deltaCarriesUptoRow.holds Tryz.pinned (OpenSpec.upto deltaCarriesSpec)

/-- 'understudylaw17.DeltaBack', WHERE WHAT IT READS IS OF BULK AT MOST 1048576: true; the input reads as it did. -/
def deltaBackUptoRow : OpenClaim := { program := "ytidlchciehdefaagreat", sum := "7019a58cb597e3f4f98fc8046eb19c789e0226bded9fdaf1e867ede8a68e479a", func := "understudy/understudylaw17.DeltaBack", spec := "deltaBack", inPlace := ["slices.overlaps[understudy/api.Entry]"], unfollowed := true, recurses := true, apart := false, narrowed := true }
def DeltaBackUptoSaid : Prop := deltaBackUptoRow.holds Tryz.pinned (OpenSpec.upto deltaBackSpec)

/-- 'understudylaw12.DiffNames', WHERE WHAT IT READS IS OF BULK AT MOST 1048576: true; the input reads as it did. -/
def diffNamesUptoRow : OpenClaim := { program := "ytidlchciehdefaagreat", sum := "7019a58cb597e3f4f98fc8046eb19c789e0226bded9fdaf1e867ede8a68e479a", func := "understudy/understudylaw12.DiffNames", spec := "diffNames", inPlace := ["slices.overlaps[understudy/api.Entry]"], unfollowed := true, recurses := true, apart := false, narrowed := true }
def DiffNamesUptoSaid : Prop := diffNamesUptoRow.holds Tryz.pinned (OpenSpec.upto diffNamesSpec)

/-- 'understudylaw12.DiffShares', WHERE WHAT IT READS IS OF BULK AT MOST 1048576: true; the input reads as it did. -/
def diffSharesUptoRow : OpenClaim := { program := "ytidlchciehdefaagreat", sum := "7019a58cb597e3f4f98fc8046eb19c789e0226bded9fdaf1e867ede8a68e479a", func := "understudy/understudylaw12.DiffShares", spec := "diffShares", inPlace := ["slices.overlaps[understudy/api.Entry]"], unfollowed := true, recurses := true, apart := false, narrowed := true }
def DiffSharesUptoSaid : Prop := diffSharesUptoRow.holds Tryz.pinned (OpenSpec.upto diffSharesSpec)

/-- 'understudylaw13.ImageRuns', WHERE WHAT IT READS IS OF BULK AT MOST 1048576: true; the input reads as it did. -/
def imageRunsUptoRow : OpenClaim := { program := "ytidlchciehdefaagreat", sum := "7019a58cb597e3f4f98fc8046eb19c789e0226bded9fdaf1e867ede8a68e479a", func := "understudy/understudylaw13.ImageRuns", spec := "imageRuns", inPlace := ["slices.overlaps[understudy/api.Entry]"], unfollowed := true, recurses := true, apart := false, narrowed := true }
def ImageRunsUptoSaid : Prop := imageRunsUptoRow.holds Tryz.pinned (OpenSpec.upto imageRunsSpec)

end Rows
end Go.Proofs.YtidlchciehdefaaGreat
