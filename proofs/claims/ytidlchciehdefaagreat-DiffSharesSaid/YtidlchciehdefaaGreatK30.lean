/-
 The document's sum of bytes (understudyref02.Of).
-/
import Derived.Test.YtidlchciehdefaaGreatK03
import Derived.Test.YtidlchciehdefaaGreatK14
import Derived.Test.YtidlchciehdefaaGreatK19
set_option linter.unusedVariables false
set_option linter.unusedSimpArgs false
namespace Go.Proofs.YtidlchciehdefaaGreat
open Go.RowKit
set_option maxRecDepth 100000

end Go.Proofs.YtidlchciehdefaaGreat
