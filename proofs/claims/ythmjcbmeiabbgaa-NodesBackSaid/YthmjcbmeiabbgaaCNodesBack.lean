/-
  NodesBack: any nodes. No conditions.
-/
import Derived.Test.YthmjcbmeiabbgaaK19
set_option linter.unusedVariables false
set_option linter.unusedSimpArgs false
namespace Go.Proofs.Ythmjcbmeiabbgaa.nodesBack
open Go.ChangeShapes Go.WideShapes Go.ChangeAt Go.RowKit
set_option maxRecDepth 100000

theorem walk {w : World} (va : Value) (l : List NM) (hl : NodesIn w va l) : Calls Try.prog 9 #[va] w fun e w' => e = .returned (.bool true) ∧ Kept (fun _ => False) w w' := walkIn va l hl
set_option maxRecDepth 100000 in
theorem lifted (os : Os) (started : os.Started) (H : Type) (enc : TypeId × Value → H) :
    ReturnsInHanded {} Try.checked os 9 .any (Rows.nodesBackSpec.pre6 enc Try.prog Try.f9 Rows.nodesBackRow.domain false) (Rows.nodesBackSpec.post enc Try.prog Try.f9 false true false false) := by
  refine law_lift os started 9 Try.f9 Try.func9 (by kernel_rfl) Rows.nodesBackSpec rfl ?_ rfl (by kernel_rfl)
    (ChangeSpec.witness6 (enc := enc) (C := Try.checked) false ⟨#[], #[.slice none 0 0], []⟩ 8 (by kernel_rfl) (by kernel_rfl) (by kernel_rfl) (by kernel_rfl)) ?_
  · intro ds hds
    rw [Try.params9] at hds
    match ds, hds with
    | [_], _ => rfl
  · intro W base args ds p hval hA
    rw [Try.params9] at hA hval
    obtain ⟨v0, vs0, d0, ds0, p0, q0, hargs, rfl, rfl, h0, r0⟩ := trodAll_cons hA
    obtain ⟨rfl, rfl, rfl⟩ := trodAll_nil r0
    obtain rfl : args = #[v0] := by cases args; simp_all
    obtain ⟨a0, w0⟩ := open_nodes (hval 0 66 v0 rfl rfl) h0
    exact (walk v0 a0 w0).mono fun e W' ⟨he, hk⟩ => ⟨he, hk.below (Nat.le_refl _) (fun _ _ h => h)⟩

theorem over : Rows.nodesBackRow.holds Try.pinned (OpenSpec.ofChange Rows.nodesBackSpec) :=
  OpenClaim.holds_of_wide 9 Try.f9 rfl rfl rfl rfl rfl rfl rfl ⟨rfl, rfl, rfl, rfl, rfl⟩ rfl rfl rfl rfl rfl (by kernel_rfl) Try.func9 (joined_of _ _ _ _ rfl rfl rfl (by kernel_rfl))
    (of_decide_eq_true (by kernel_rfl)) (by unfold Func.isWrapper; rw [if_neg (by decide +kernel)]; exact ⟨rfl, rfl⟩)
    (fun os started H enc _ => lifted os started H enc)

theorem proved : Rows.NodesBackSaid := over
#print axioms proved
end Go.Proofs.Ythmjcbmeiabbgaa.nodesBack
