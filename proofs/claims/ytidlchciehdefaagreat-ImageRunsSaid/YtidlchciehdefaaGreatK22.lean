/-
 Two trees held against one another: a queue; a tree's nodes, round by round (plain).
-/
import Derived.Test.YtidlchciehdefaaGreatK21
import Derived.ArgAppend
import Derived.Laws.IdiomCopy
import Derived.WalkArith
set_option linter.unusedVariables false
set_option linter.unusedSimpArgs false
namespace Go.Proofs.YtidlchciehdefaaGreat
open Go.RowKit
set_option maxRecDepth 100000

section
variable {w : World} {ops : Array Oper} {rest : List Oper} {o : Oper} {a : Act} {Q : Exit → Act → World → Prop}
end

inductive Below (M : SM) (root : Int) : Int → Prop
 | here : Below M root root
 | kid {x : Int} {y : Int × Int} : Below M root x → (M.get x).1.kind = 3 → y ∈ (M.get x).1.ents → Below M root y.2
end Go.Proofs.YtidlchciehdefaaGreat
/-
 Two trees held against one another: the nodes of a tree (diff's inner).
-/
namespace Go.Proofs.YtidlchciehdefaaGreat
open Go.RowKit Go.Maps Go.Sort
set_option maxRecDepth 100000

end Go.Proofs.YtidlchciehdefaaGreat
