/-
  DiffTells: of any two trees just the document's changes, both ways. No conditions.
-/
import Derived.Test.YtdcnogjbmdhgaaaK30
import Derived.Test.YtdcnogjbmdhgaaaK32
import Derived.Test.YtdcnogjbmdhgaaaK33
set_option linter.unusedVariables false
set_option linter.unusedSimpArgs false
namespace Go.Proofs.Ytdcnogjbmdhgaaa.diffTells
open Go.ChangeShapes Go.WideShapes Go.ChangeAt Go.RowKit
set_option maxRecDepth 100000

theorem walk {w : World} (v0 v1 : Value) (l0 l1 : List (Int × Int)) (h0 : PairsAt w v0 l0) (h1 : PairsAt w v1 l1) (ap : Bool) :
    Calls Try.prog 4 #[.agg #[v0, v1], .bool ap] w fun e w' => e = .returned (.bool true) ∧ Kept (fun _ => False) w w' := diffTellsWalk v0 v1 l0 l1 (pairs_entsS h0) (pairs_entsS h1) ap
set_option maxRecDepth 100000 in
theorem lifted (os : Os) (started : os.Started) (H : Type) (enc : TypeId × Value → H) :
    ReturnsInHanded {} Try.checked os 4 .any (Rows.diffTellsSpec.pre6 enc Try.prog Try.f4 Rows.diffTellsRow.domain false) (Rows.diffTellsSpec.post enc Try.prog Try.f4 false true false false) := by
  refine law_lift os started 4 Try.f4 Try.func4 (by kernel_rfl) Rows.diffTellsSpec rfl ?_ rfl (by kernel_rfl)
    (ChangeSpec.witness6 (enc := enc) (C := Try.checked) false ⟨#[], #[.agg #[.slice none 0 0, .slice none 0 0], .bool false], []⟩ 8 (by kernel_rfl) (by kernel_rfl) (by kernel_rfl) (by kernel_rfl)) ?_
  · intro ds hds
    rw [Try.params4] at hds
    match ds, hds with
    | [_, _], _ => rfl
  · intro W base args ds p hval hA
    rw [Try.params4] at hA hval
    obtain ⟨v0, vs0, d0, ds0, p0, q0, hargs, rfl, rfl, h0, r0⟩ := trodAll_cons hA
    obtain ⟨v1, vs1, d1, ds1, p1, q1, rfl, rfl, rfl, h1, r1⟩ := trodAll_cons r0
    obtain ⟨rfl, rfl, rfl⟩ := trodAll_nil r1
    obtain rfl : args = #[v0, v1] := by cases args; simp_all
    obtain ⟨u0, y0, a0, b0, rfl, w0, z0⟩ := open_two (hval 0 23 v0 rfl rfl) h0
    obtain ⟨a1, rfl, rfl, rfl⟩ := open_bool Try.underlying4 (hval 1 4 v1 rfl rfl) h1
    exact (walk u0 y0 a0 b0 w0 z0 a1).mono fun e W' ⟨he, hk⟩ => ⟨he, hk.below (Nat.le_refl _) (fun _ _ h => h)⟩

theorem over : Rows.diffTellsRow.holds Try.pinned (OpenSpec.ofChange Rows.diffTellsSpec) :=
  OpenClaim.holds_of_wide 4 Try.f4 rfl rfl rfl rfl rfl rfl rfl ⟨rfl, rfl, rfl, rfl, rfl⟩ rfl rfl rfl rfl rfl (by kernel_rfl) Try.func4 (joined_of _ _ _ _ rfl rfl rfl (by kernel_rfl))
    (of_decide_eq_true (by kernel_rfl)) (by unfold Func.isWrapper; rw [if_neg (by decide +kernel)]; exact ⟨rfl, rfl⟩)
    (fun os started H enc _ => lifted os started H enc)

theorem proved : Rows.DiffTellsSaid := over
#print axioms proved
end Go.Proofs.Ytdcnogjbmdhgaaa.diffTells
