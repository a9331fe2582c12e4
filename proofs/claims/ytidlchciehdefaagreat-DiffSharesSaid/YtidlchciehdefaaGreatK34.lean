/-
 Slices that came in, of whatever elements.
-/
import Derived.Test.YtidlchciehdefaaGreatK02
import Derived.Test.YtidlchciehdefaaGreatK13
import Derived.Test.YtidlchciehdefaaGreatK33
set_option linter.unusedVariables false
set_option linter.unusedSimpArgs false
namespace Go.Proofs.YtidlchciehdefaaGreat
open Go.ChangeShapes Go.WideShapes Go.ChangeAt Go.RowKit
set_option maxRecDepth 100000

section
variable {H : Type} {enc : TypeId × Value → H} {W : World}
end
end Go.Proofs.YtidlchciehdefaaGreat
