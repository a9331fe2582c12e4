/-
  PoolNames: with no input, the law answers true. No conditions.
-/
import Derived.Test.YtgajongbbaccjaaPoolL
import Derived.Test.YtgajongbbaccjaaLaw
namespace Go.Proofs.Ytgajongbbaccjaa.poolNames
open Go.ChangeShapes Go.WideShapes Go.ChangeAt Go.RowKit

set_option maxRecDepth 100000 in
theorem lifted (os : Os) (started : os.Started) (H : Type) (enc : TypeId × Value → H) :
    ReturnsInHanded {} Try.checked os 3 .any (Rows.poolNamesSpec.pre6 enc Try.prog Try.f3 Rows.poolNamesRow.domain false) (Rows.poolNamesSpec.post enc Try.prog Try.f3 false true false false) := by
  refine law_lift os started 3 Try.f3 Try.func3 (by kernel_rfl) Rows.poolNamesSpec rfl ?_ rfl (by kernel_rfl)
    (ChangeSpec.witness6 (enc := enc) (C := Try.checked) false ⟨#[], #[], []⟩ 8 (by kernel_rfl) (by kernel_rfl) (by kernel_rfl) (by kernel_rfl)) ?_
  · intro ds hds
    rw [Try.params3] at hds
    match ds, hds with
    | [], _ => rfl
  · intro W base args ds p hval hA
    rw [Try.params3] at hA
    obtain ⟨hargs, rfl, rfl⟩ := trodAll_nil hA
    obtain rfl : args = #[] := by cases args; simp_all
    exact (poolNames_walk W).mono fun e W' ⟨he, hk⟩ => ⟨he, hk.below (Nat.le_refl _) (fun _ _ h => h)⟩

theorem over : Rows.poolNamesRow.holds Try.pinned (OpenSpec.ofChange Rows.poolNamesSpec) :=
  OpenClaim.holds_of_wide 3 Try.f3 rfl rfl rfl rfl rfl rfl rfl ⟨rfl, rfl, rfl, rfl, rfl⟩ rfl rfl rfl rfl rfl (by kernel_rfl) Try.func3 (joined_of _ _ _ _ rfl rfl rfl (by kernel_rfl))
    (of_decide_eq_true (by kernel_rfl)) (by unfold Func.isWrapper; rw [if_neg (by decide +kernel)]; exact ⟨rfl, rfl⟩)
    (fun os started H enc _ => lifted os started H enc)

theorem proved : Rows.PoolNamesSaid := over
#print axioms proved
end Go.Proofs.Ytgajongbbaccjaa.poolNames
