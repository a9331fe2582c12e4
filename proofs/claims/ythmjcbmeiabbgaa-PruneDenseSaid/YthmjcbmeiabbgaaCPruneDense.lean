/-
  PruneDense: no room wasted for long. No conditions.
-/
import Derived.Test.YthmjcbmeiabbgaaK19
import Derived.Test.YthmjcbmeiabbgaaK21
set_option linter.unusedVariables false
set_option linter.unusedSimpArgs false
namespace Go.Proofs.Ythmjcbmeiabbgaa.pruneDense
open Go.ChangeShapes Go.WideShapes Go.ChangeAt Go.RowKit
set_option maxRecDepth 100000

theorem walk {w : World} (va : Value) (l : List Int) (hl : IntsAt w va l) : Calls Try.prog 12 #[va] w fun e w' => e = .returned (.bool true) ∧ Kept (fun _ => False) w w' := walkIn va l hl.val
set_option maxRecDepth 100000 in
theorem lifted (os : Os) (started : os.Started) (H : Type) (enc : TypeId × Value → H) :
    ReturnsInHanded {} Try.checked os 12 .any (Rows.pruneDenseSpec.pre6 enc Try.prog Try.f12 Rows.pruneDenseRow.domain false) (Rows.pruneDenseSpec.post enc Try.prog Try.f12 false true false false) := by
  refine law_lift os started 12 Try.f12 Try.func12 (by kernel_rfl) Rows.pruneDenseSpec rfl ?_ rfl (by kernel_rfl)
    (ChangeSpec.witness6 (enc := enc) (C := Try.checked) false ⟨#[], #[.slice none 0 0], []⟩ 8 (by kernel_rfl) (by kernel_rfl) (by kernel_rfl) (by kernel_rfl)) ?_
  · intro ds hds
    rw [Try.params12] at hds
    match ds, hds with
    | [_], _ => rfl
  · intro W base args ds p hval hA
    rw [Try.params12] at hA hval
    obtain ⟨v0, vs0, d0, ds0, p0, q0, hargs, rfl, rfl, h0, r0⟩ := trodAll_cons hA
    obtain ⟨rfl, rfl, rfl⟩ := trodAll_nil r0
    obtain rfl : args = #[v0] := by cases args; simp_all
    obtain ⟨a0, w0⟩ := open_ints Try.underlying22 Try.underlying3 (by kernel_rfl) (hval 0 22 v0 rfl rfl) h0
    exact (walk v0 a0 w0).mono fun e W' ⟨he, hk⟩ => ⟨he, hk.below (Nat.le_refl _) (fun _ _ h => h)⟩

theorem over : Rows.pruneDenseRow.holds Try.pinned (OpenSpec.ofChange Rows.pruneDenseSpec) :=
  OpenClaim.holds_of_wide 12 Try.f12 rfl rfl rfl rfl rfl rfl rfl ⟨rfl, rfl, rfl, rfl, rfl⟩ rfl rfl rfl rfl rfl (by kernel_rfl) Try.func12 (joined_of _ _ _ _ rfl rfl rfl (by kernel_rfl))
    (of_decide_eq_true (by kernel_rfl)) (by unfold Func.isWrapper; rw [if_neg (by decide +kernel)]; exact ⟨rfl, rfl⟩)
    (fun os started H enc _ => lifted os started H enc)

theorem proved : Rows.PruneDenseSaid := over
#print axioms proved
end Go.Proofs.Ythmjcbmeiabbgaa.pruneDense
