/-
 maps.Keys, slices.Sorted, slices.Sort at ints: the shelf's contracts at this program.
-/
import Derived.Test.YtdcnogjbmdhgaaaK02
import Derived.Shelf.SlIterI.Nil
import Derived.Shelf.SortM.Plain
import Derived.Shelf.SortM.SortNone
import Derived.Ground.GgzProg
import Derived.Ground.SlgmProg
import Derived.Maps.OwnOps
import Derived.Test.YtdcnogjbmdhgaaaProg
set_option linter.unusedVariables false
set_option linter.unusedSimpArgs false
namespace Go.Proofs.Ytdcnogjbmdhgaaa
open Go.RowKit Go.Maps Go.Sort Go.Shelf
set_option maxRecDepth 100000

end Go.Proofs.Ytdcnogjbmdhgaaa
