/-
 Layer 12: DiffWays' walk.
-/
import Derived.Test.YtdcnogjbmdhgaaaK12
import Derived.Test.YtdcnogjbmdhgaaaK28
set_option linter.unusedVariables false
set_option linter.unusedSimpArgs false
namespace Go.Proofs.Ytdcnogjbmdhgaaa
open Go.RowKit
set_option maxRecDepth 100000

theorem changes_le (la lb : List (Int × Int)) : (changesL la lb).length ≤ 64 := by
 rw [changes_count]
 exact Nat.le_trans List.countP_le_length (by rw [List.length_range]; exact Nat.le_refl _)
section
variable {w wr w' : World} {db sb rb lb : Nat} {vm vp : Value} {ns : List Nat} {more la lc0 : List (Int × Int)} {r0 r1 : Int} {L0 L1 : Value} {A A' : SA} {M M' : SM}
end
end Go.Proofs.Ytdcnogjbmdhgaaa
