/-
 The document's sum of bytes (understudyref02): its polynomial.
-/
import Derived.Test.YtidlchciehdefaaGreatK07
import Derived.Test.YtidlchciehdefaaGreatK12
set_option linter.unusedVariables false
set_option linter.unusedSimpArgs false
namespace Go.Proofs.YtidlchciehdefaaGreat
open Go.RowKit
set_option maxRecDepth 100000

end Go.Proofs.YtidlchciehdefaaGreat
