/-
 The document's images (understudyref13): the sum.
-/
import Derived.Test.YtidlchciehdefaaGreatK13
import Derived.Test.YtidlchciehdefaaGreatK18
import Derived.Test.YtidlchciehdefaaGreatK27
import Derived.Test.YtidlchciehdefaaGreatK30
set_option linter.unusedVariables false
set_option linter.unusedSimpArgs false
namespace Go.Proofs.YtidlchciehdefaaGreat
open Go.RowKit
set_option maxRecDepth 100000



def b1 : List Nat := 1 :: List.replicate 15 0


structure ItemM where
 key : Int
 has : Bool
 block : List Nat
def ItemM.ok (x : ItemM) : Prop := x.block.length = 16 ∧ ∀ b ∈ x.block, b < 256
def ItemM.zero : ItemM := ⟨0, false, zeros16⟩
def rightB (x : ItemM) : Bool := decide (0 ≤ x.key ∧ x.key < 64) && (x.has || decide (x.block = zeros16))

def SM.item (M : SM) (root : Int) (x : ItemM) : SM × Int × Nat := if x.has = true then M.write1 root x.key x.block else M.changes [(x.key, -1)] root

end Go.Proofs.YtidlchciehdefaaGreat
