/-
  DiffWays: from one tree to another by way of a second one, or at once, and back. No conditions.
-/
import Derived.Test.YtdcnogjbmdhgaaaK28
import Derived.Test.YtdcnogjbmdhgaaaK30
import Derived.Test.YtdcnogjbmdhgaaaK31
set_option linter.unusedVariables false
set_option linter.unusedSimpArgs false
namespace Go.Proofs.Ytdcnogjbmdhgaaa.diffWays
open Go.ChangeShapes Go.WideShapes Go.ChangeAt Go.RowKit
set_option maxRecDepth 100000

theorem walk {w : World} (v0 v1 : Value) (l0 l1 : List (Int × Int)) (h0 : PairsAt w v0 l0) (h1 : PairsAt w v1 l1) (vm : Value) (more : List (Int × Int)) (hm : PairsAt w vm more) :
    Calls Try.prog 3 #[.agg #[v0, v1], vm] w fun e w' => e = .returned (.bool true) ∧ Kept (fun _ => False) w w' := diffWaysWalk v0 v1 l0 l1 (pairs_entsS h0) (pairs_entsS h1) vm more (pairs_entsS hm)
set_option maxRecDepth 100000 in
theorem lifted (os : Os) (started : os.Started) (H : Type) (enc : TypeId × Value → H) :
    ReturnsInHanded {} Try.checked os 3 .any (Rows.diffWaysSpec.pre6 enc Try.prog Try.f3 Rows.diffWaysRow.domain false) (Rows.diffWaysSpec.post enc Try.prog Try.f3 false true false false) := by
  refine law_lift os started 3 Try.f3 Try.func3 (by kernel_rfl) Rows.diffWaysSpec rfl ?_ rfl (by kernel_rfl)
    (ChangeSpec.witness6 (enc := enc) (C := Try.checked) false ⟨#[], #[.agg #[.slice none 0 0, .slice none 0 0], .slice none 0 0], []⟩ 8 (by kernel_rfl) (by kernel_rfl) (by kernel_rfl) (by kernel_rfl)) ?_
  · intro ds hds
    rw [Try.params3] at hds
    match ds, hds with
    | [_, _], _ => rfl
  · intro W base args ds p hval hA
    rw [Try.params3] at hA hval
    obtain ⟨v0, vs0, d0, ds0, p0, q0, hargs, rfl, rfl, h0, r0⟩ := trodAll_cons hA
    obtain ⟨v1, vs1, d1, ds1, p1, q1, rfl, rfl, rfl, h1, r1⟩ := trodAll_cons r0
    obtain ⟨rfl, rfl, rfl⟩ := trodAll_nil r1
    obtain rfl : args = #[v0, v1] := by cases args; simp_all
    obtain ⟨u0, y0, a0, b0, rfl, w0, z0⟩ := open_two (hval 0 23 v0 rfl rfl) h0
    obtain ⟨a1, w1⟩ := open_pairs Try.underlying22 Try.underlying41 rfl rfl rfl Try.underlying3 Try.underlying3 (by kernel_rfl) (by kernel_rfl) (by kernel_rfl) (hval 1 22 v1 rfl rfl) h1
    exact (walk u0 y0 a0 b0 w0 z0 v1 a1 w1).mono fun e W' ⟨he, hk⟩ => ⟨he, hk.below (Nat.le_refl _) (fun _ _ h => h)⟩

theorem over : Rows.diffWaysRow.holds Try.pinned (OpenSpec.ofChange Rows.diffWaysSpec) :=
  OpenClaim.holds_of_wide 3 Try.f3 rfl rfl rfl rfl rfl rfl rfl ⟨rfl, rfl, rfl, rfl, rfl⟩ rfl rfl rfl rfl rfl (by kernel_rfl) Try.func3 (joined_of _ _ _ _ rfl rfl rfl (by kernel_rfl))
    (of_decide_eq_true (by kernel_rfl)) (by unfold Func.isWrapper; rw [if_neg (by decide +kernel)]; exact ⟨rfl, rfl⟩)
    (fun os started H enc _ => lifted os started H enc)

theorem proved : Rows.DiffWaysSaid := over
#print axioms proved
end Go.Proofs.Ytdcnogjbmdhgaaa.diffWays
