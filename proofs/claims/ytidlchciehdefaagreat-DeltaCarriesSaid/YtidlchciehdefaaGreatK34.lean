/-
 Layer 17: one chunk, as the document has it (understudyref17.Chunk).
-/
import Derived.Test.YtidlchciehdefaaGreatK33
set_option linter.unusedVariables false
set_option linter.unusedSimpArgs false
namespace Go.Proofs.YtidlchciehdefaaGreat
open Go.RowKit
set_option maxRecDepth 100000

end Go.Proofs.YtidlchciehdefaaGreat
