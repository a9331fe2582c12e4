/-
 Layer 17: DeltaChunks' walk.
-/
import Derived.Test.YtidlchciehdefaaGreatK37
set_option linter.unusedVariables false
set_option linter.unusedSimpArgs false
namespace Go.Proofs.YtidlchciehdefaaGreat
open Go.RowKit
set_option maxRecDepth 100000

theorem chunks_all (n : Nat) (size : Int) : (n : Int) ≤ chunksI n size * boundI size ∧ 1 ≤ chunksI n size ∧ (n ≤ 200 → chunksI n size ≤ 201) := by
 have h := boundI_in size
 unfold chunksI
 rcases h with h | h | h | h <;> rw [h] <;> split
 all_goals first | omega | (split <;> omega)
theorem take_chunk (l : List ItemM) (s i : Nat) : l.take (i * s) ++ chunkL l s i = l.take ((i + 1) * s) := by
 rw [chunkL_at, Nat.add_mul, Nat.one_mul, List.take_add]
end Go.Proofs.YtidlchciehdefaaGreat
