/-
  DiffApplies: any changes to any tree; with an error, made undone, all is as it was. No conditions.
-/
import Derived.Test.YtidlchciehdefaaK27
import Derived.Test.YtidlchciehdefaaK29
import Derived.Test.YtidlchciehdefaaK30
set_option linter.unusedVariables false
set_option linter.unusedSimpArgs false
namespace Go.Proofs.Ytidlchciehdefaa.diffApplies
open Go.ChangeShapes Go.WideShapes Go.ChangeAt Go.RowKit
set_option maxRecDepth 100000

theorem walk {w : World} (v0 v1 : Value) (l0 l1 : List (Int × Int)) (h0 : PairsAt w v0 l0) (h1 : PairsAt w v1 l1) :
    Calls Try.prog 5 #[.agg #[v0, v1]] w fun e w' => e = .returned (.bool true) ∧ Kept (fun _ => False) w w' := diffAppliesWalk v0 v1 l0 l1 (pairs_entsS h0) (pairs_entsS h1)
set_option maxRecDepth 100000 in
theorem lifted (os : Os) (started : os.Started) (H : Type) (enc : TypeId × Value → H) :
    ReturnsInHanded {} Try.checked os 5 .any (Rows.diffAppliesSpec.pre6 enc Try.prog Try.f5 Rows.diffAppliesRow.domain false) (Rows.diffAppliesSpec.post enc Try.prog Try.f5 false true false false) := by
  refine law_lift os started 5 Try.f5 Try.func5 (by kernel_rfl) Rows.diffAppliesSpec rfl ?_ rfl (by kernel_rfl)
    (ChangeSpec.witness6 (enc := enc) (C := Try.checked) false ⟨#[], #[.agg #[.slice none 0 0, .slice none 0 0]], []⟩ 8 (by kernel_rfl) (by kernel_rfl) (by kernel_rfl) (by kernel_rfl)) ?_
  · intro ds hds
    rw [Try.params5] at hds
    match ds, hds with
    | [_], _ => rfl
  · intro W base args ds p hval hA
    rw [Try.params5] at hA hval
    obtain ⟨v0, vs0, d0, ds0, p0, q0, hargs, rfl, rfl, h0, r0⟩ := trodAll_cons hA
    obtain ⟨rfl, rfl, rfl⟩ := trodAll_nil r0
    obtain rfl : args = #[v0] := by cases args; simp_all
    obtain ⟨u0, y0, a0, b0, rfl, w0, z0⟩ := open_two (hval 0 23 v0 rfl rfl) h0
    exact (walk u0 y0 a0 b0 w0 z0).mono fun e W' ⟨he, hk⟩ => ⟨he, hk.below (Nat.le_refl _) (fun _ _ h => h)⟩

theorem over : Rows.diffAppliesRow.holds Try.pinned (OpenSpec.ofChange Rows.diffAppliesSpec) :=
  OpenClaim.holds_of_wide 5 Try.f5 rfl rfl rfl rfl rfl rfl rfl ⟨rfl, rfl, rfl, rfl, rfl⟩ rfl rfl rfl rfl rfl (by kernel_rfl) Try.func5 (joined_of _ _ _ _ rfl rfl rfl (by kernel_rfl))
    (of_decide_eq_true (by kernel_rfl)) (by unfold Func.isWrapper; rw [if_neg (by decide +kernel)]; exact ⟨rfl, rfl⟩)
    (fun os started H enc _ => lifted os started H enc)

theorem proved : Rows.DiffAppliesSaid := over
#print axioms proved
end Go.Proofs.Ytidlchciehdefaa.diffApplies
