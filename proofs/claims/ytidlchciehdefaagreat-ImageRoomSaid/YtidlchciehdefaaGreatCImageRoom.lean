/-
  ImageRoom: the same blocks, no more room. No conditions.
-/
import Derived.Test.YtidlchciehdefaaGreatK20
import Derived.Test.YtidlchciehdefaaGreatK22
set_option linter.unusedVariables false
set_option linter.unusedSimpArgs false
namespace Go.Proofs.YtidlchciehdefaaGreat.imageRoom
open Go.ChangeShapes Go.WideShapes Go.ChangeAt Go.RowKit
set_option maxRecDepth 100000

theorem walk {w : World} (va : Value) (l : List ActI) (hl : SliceOf w 20 (ActIP w) va l) : Calls Tryz.prog 5 #[va] w fun e w' => e = .returned (.bool true) ∧ Kept (fun _ => False) w w' := walkIn va l (acts_in hl)
set_option maxRecDepth 100000 in
theorem lifted (os : Os) (started : os.Started) (H : Type) (enc : TypeId × Value → H) :
    ReturnsInHanded {} Tryz.checked os 5 .any (Rows.imageRoomSpec.pre6 enc Tryz.prog Tryz.f5 Rows.imageRoomRow.domain false) (Rows.imageRoomSpec.post enc Tryz.prog Tryz.f5 false true false false) := by
  refine law_lift os started 5 Tryz.f5 Tryz.func5 (by kernel_rfl) Rows.imageRoomSpec rfl ?_ rfl (by kernel_rfl)
    (ChangeSpec.witness6 (enc := enc) (C := Tryz.checked) false ⟨#[], #[.slice none 0 0], []⟩ 8 (by kernel_rfl) (by kernel_rfl) (by kernel_rfl) (by kernel_rfl)) ?_
  · intro ds hds
    rw [Tryz.params5] at hds
    match ds, hds with
    | [_], _ => rfl
  · intro W base args ds p hval hA
    rw [Tryz.params5] at hA hval
    obtain ⟨v0, vs0, d0, ds0, p0, q0, hargs, rfl, rfl, h0, r0⟩ := trodAll_cons hA
    obtain ⟨rfl, rfl, rfl⟩ := trodAll_nil r0
    obtain rfl : args = #[v0] := by cases args; simp_all
    obtain ⟨a0, w0⟩ := open_actsI (hval 0 22 v0 rfl rfl) h0
    exact (walk v0 a0 w0).mono fun e W' ⟨he, hk⟩ => ⟨he, hk.below (Nat.le_refl _) (fun _ _ h => h)⟩

theorem over : Rows.imageRoomRow.holds Tryz.pinned (OpenSpec.ofChange Rows.imageRoomSpec) :=
  OpenClaim.holds_of_wide 5 Tryz.f5 rfl rfl rfl rfl rfl rfl rfl ⟨rfl, rfl, rfl, rfl, rfl⟩ rfl rfl rfl rfl rfl (by kernel_rfl) Tryz.func5 (joined_of _ _ _ _ rfl rfl rfl (by kernel_rfl))
    (of_decide_eq_true (by kernel_rfl)) (by unfold Func.isWrapper; rw [if_neg (by decide +kernel)]; exact ⟨rfl, rfl⟩)
    (fun os started H enc _ => lifted os started H enc)

theorem proved : Rows.ImageRoomSaid := over
#print axioms proved
end Go.Proofs.YtidlchciehdefaaGreat.imageRoom
