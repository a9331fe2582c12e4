/-
  ImageRuns: each image is its own, whatever is done. No conditions.
-/
import Derived.Test.YtidlchciehdefaaGreatK24
import Derived.Test.YtidlchciehdefaaGreatK26
set_option linter.unusedVariables false
set_option linter.unusedSimpArgs false
namespace Go.Proofs.YtidlchciehdefaaGreat.imageRuns
open Go.ChangeShapes Go.WideShapes Go.ChangeAt Go.RowKit
set_option maxRecDepth 100000

theorem walk {w : World} (p : Int) (hb : -9223372036854775808 ≤ p ∧ p ≤ 9223372036854775807) (va : Value) (l : List ActI) (hl : SliceOf w 20 (ActIP w) va l) : Calls Tryz.prog 15 #[.int .i64 p, va] w fun e w' => e = .returned (.bool true) ∧ Kept (fun _ => False) w w' := runsWalk p hb va l (acts_in hl)
set_option maxRecDepth 100000 in
theorem lifted (os : Os) (started : os.Started) (H : Type) (enc : TypeId × Value → H) :
    ReturnsInHanded {} Tryz.checked os 15 .any (Rows.imageRunsSpec.pre6 enc Tryz.prog Tryz.f15 Rows.imageRunsRow.domain false) (Rows.imageRunsSpec.post enc Tryz.prog Tryz.f15 false true false false) := by
  refine law_lift os started 15 Tryz.f15 Tryz.func15 (by kernel_rfl) Rows.imageRunsSpec rfl ?_ rfl (by kernel_rfl)
    (ChangeSpec.witness6 (enc := enc) (C := Tryz.checked) false ⟨#[], #[.int .i64 0, .slice none 0 0], []⟩ 8 (by kernel_rfl) (by kernel_rfl) (by kernel_rfl) (by kernel_rfl)) ?_
  · intro ds hds
    rw [Tryz.params15] at hds
    match ds, hds with
    | [_, _], _ => rfl
  · intro W base args ds p hval hA
    rw [Tryz.params15] at hA hval
    obtain ⟨v0, vs0, d0, ds0, p0, q0, hargs, rfl, rfl, h0, r0⟩ := trodAll_cons hA
    obtain ⟨v1, vs1, d1, ds1, p1, q1, rfl, rfl, rfl, h1, r1⟩ := trodAll_cons r0
    obtain ⟨rfl, rfl, rfl⟩ := trodAll_nil r1
    obtain rfl : args = #[v0, v1] := by cases args; simp_all
    obtain ⟨a0, rfl, rfl, rfl, w0⟩ := open_int Tryz.underlying3 (hval 0 3 v0 rfl rfl) h0
    obtain ⟨a1, w1⟩ := open_actsI (hval 1 22 v1 rfl rfl) h1
    exact (walk a0 (wf_i64 w0) v1 a1 w1).mono fun e W' ⟨he, hk⟩ => ⟨he, hk.below (Nat.le_refl _) (fun _ _ h => h)⟩

theorem over : Rows.imageRunsRow.holds Tryz.pinned (OpenSpec.ofChange Rows.imageRunsSpec) :=
  OpenClaim.holds_of_wide 15 Tryz.f15 rfl rfl rfl rfl rfl rfl rfl ⟨rfl, rfl, rfl, rfl, rfl⟩ rfl rfl rfl rfl rfl (by kernel_rfl) Tryz.func15 (joined_of _ _ _ _ rfl rfl rfl (by kernel_rfl))
    (of_decide_eq_true (by kernel_rfl)) (by unfold Func.isWrapper; rw [if_neg (by decide +kernel)]; exact ⟨rfl, rfl⟩)
    (fun os started H enc _ => lifted os started H enc)

theorem proved : Rows.ImageRunsSaid := over
#print axioms proved
end Go.Proofs.YtidlchciehdefaaGreat.imageRuns
