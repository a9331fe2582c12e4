/-
 The document's sum of bytes (understudyref02.Of), plain: it is the program's.
-/
import Derived.Test.YtidlchciehdefaaGreatK05
import Derived.Laws.Bits64
set_option linter.unusedVariables false
set_option linter.unusedSimpArgs false
namespace Go.Proofs.YtidlchciehdefaaGreat
open Go.RowKit
set_option maxRecDepth 100000


end Go.Proofs.YtidlchciehdefaaGreat
